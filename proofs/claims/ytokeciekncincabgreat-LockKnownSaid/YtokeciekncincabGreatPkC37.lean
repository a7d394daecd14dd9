/-
  Walk of the document's add: a spot put at its place of a sorted row.
  No condition but sizes.
  Walk of the document's Spots.
  No condition but sizes.
  Walk of the document's Leave.
  No condition but sizes.
  Walk of the document's number: a number put at its place of a rising row.
  No condition but sizes.
  Rows of numbers put together: whom Holders and For of the document tell. Plain Lean.
  No condition.
  Walk of the document's Holders.
  No condition but sizes.
-/
import Derived.Test.YtokeciekncincabGreatPkC36
import Derived.Test.YtokeciekncincabGreatPkC13
import Derived.IntWalk
import Derived.Test.YtokeciekncincabGreatPkC23
namespace Go.Proofs.YtokeciekncincabGreat
open Go Go.RowKit Go.Maps

theorem sp_drop (ps : List Spot) (i : Nat) : (ps.flatMap sp3).drop (i * 3) = (ps.drop i).flatMap sp3 := by
  induction ps generalizing i with
  | nil => simp
  | cons x ps ih =>
    cases i with
    | zero => simp
    | succ i =>
      have e : (i + 1) * 3 = i * 3 + 1 + 1 + 1 := by omega
      rw [e]
      simp only [List.flatMap_cons, List.cons_append, List.nil_append, List.drop_succ_cons, ih]
theorem sps_one (l : List Spot) : ∀ u ∈ l.flatMap sp3, u.oneCell' = true := by
  intro u hu
  obtain ⟨e, _, h⟩ := List.mem_flatMap.1 hu
  exact sp3_one e u h
theorem new_of {B N : Nat} {v u : Value} (hf : B ≤ N) (h : v.ownBlock = u.ownBlock ∨ v.ownBlock = some N) (hu : ∀ k, u.ownBlock = some k → B ≤ k) : ∀ k, v.ownBlock = some k → B ≤ k := by
  intro k hk
  rcases h with h | h
  · exact hu k (h.symm.trans hk)
  · rw [h] at hk; cases hk; exact hf
theorem add_take {l : List Spot} {k : Nat} {s y : Spot} (h : SortedS l) (hB : ∀ b ∈ l.drop k, lessS s b = true) (hk : 0 < k) (hy : l[k - 1]? = some y) (h1 : lessS s y = false) (h2 : y ≠ s) : addL l s = l.take k ++ s :: l.drop k := by
  have h3 := add_at (A := l.take k) (B := l.drop k) (s := s) (by rw [List.take_append_drop]; exact h) hB (fun a ha => by
    have hkl : k - 1 < l.length := by
      rcases Nat.lt_or_ge (k - 1) l.length with h | h
      · exact h
      · rw [List.getElem?_eq_none h] at hy; cases hy
    have h4 : (l.take k).getLast? = some y := by
      rw [List.getLast?_eq_getElem?, List.length_take, Nat.min_eq_left (by omega), List.getElem?_take, if_pos (by omega), hy]
    have ha2 : (l.take k).getLast? = some a := ha
    rw [h4] at ha2
    cases ha2
    exact ⟨h1, h2⟩)
  rw [List.take_append_drop] at h3
  exact h3
theorem add_zero {l : List Spot} {s : Spot} (h : SortedS l) (hB : ∀ b ∈ l, lessS s b = true) : addL l s = l.take 0 ++ s :: l.drop 0 := by
  have h3 := add_at (A := []) (B := l) (s := s) h hB (fun a ha => by cases ha)
  exact h3
theorem drop_less {l : List Spot} {k : Nat} {s y : Spot} (hB : ∀ b ∈ l.drop (k + 1), lessS s b = true) (hy : l[k]? = some y) (h : lessS s y = true) : ∀ b ∈ l.drop k, lessS s b = true := by
  intro b hb
  have hkl : k < l.length := by
    rcases Nat.lt_or_ge k l.length with h | h
    · exact h
    · rw [List.getElem?_eq_none h] at hy; cases hy
  rw [List.drop_eq_getElem_cons hkl] at hb
  rw [List.getElem?_eq_getElem hkl] at hy
  cases hy
  rcases List.mem_cons.1 hb with rfl | hb
  · exact h
  · exact hB b hb
/-- What add gives. -/
def AddRet (w : World) (v : Value) (L : List Spot) (e : Ending) (w' : World) : Prop := ∃ v', e = .returned v' ∧ OwnSp w' v' L ∧ (∀ k, v'.ownBlock = some k → v.ownBlock = some k ∨ w.heap.size ≤ k) ∧ Fr w w' Nil
theorem add_fin {w w7 : World} {v : Value} {l : List Spot} {s : Spot} {k n c7 : Nat} {a7 : Option Addr} (ho : w7.ownsRow 0 30 3 (.slice a7 n c7) n (((l.take k).flatMap sp3 ++ sp3 s) ++ (l.drop k).flatMap sp3)) (hn : n = l.length + 1) (hk : k ≤ l.length)
    (hL : addL l s = l.take k ++ s :: l.drop k) (hb : ∀ j, (Value.slice a7 n c7).ownBlock = some j → w.heap.size ≤ j) (hf : Fr w w7 Nil) : AddRet w v (addL l s) (.returned (.slice a7 n c7)) w7 := by
  refine ⟨_, rfl, ?_, fun j hj => .inr (hb j hj), hf⟩
  unfold OwnSp
  rw [hL, show (l.take k ++ s :: l.drop k).length = n by simp; omega, List.flatMap_append, List.flatMap_cons, ← List.append_assoc]
  exact ho
set_option maxRecDepth 100000 in
set_option maxHeartbeats 8000000 in
theorem radd_any {l : List Spot} {v : Value} (s : Spot) (w : World) (h : OwnSp w v l) (hs : SortedS l) (hl : l.length ≤ 100000) :
    Calls Tryz.prog 62 #[v, spV s] w (AddRet w v (addL l s)) := by
  obtain ⟨w0, hw0⟩ : ∃ w0, w.alloc (.cells #[.int .i64 s.1, .bool s.2.1, .int .i64 s.2.2] 30) = w0 := ⟨_, rfl⟩
  have hf0 : Fr w w0 Nil := by rw [← hw0]; exact (Fr.refl w Nil).alloc _
  have hb0 : Bk w0 w.heap.size 30 [.int .i64 s.1, .bool s.2.1, .int .i64 s.2.2] := by rw [← hw0]; exact Bk.new w _ _
  have ho0 := h.fr hf0 fun _ _ h => h
  have HF0 := Lib.hid hf0
  have HB0 := Lib.hid hb0
  have HO := Lib.hid ho0
  have HSO := Lib.hid hs
  have HON1 := Lib.hid (sp3_one s)
  have HONE : Hid (∀ W : World, SlAt (W.alloc (.cells #[.int .i64 s.1, .bool s.2.1, .int .i64 s.2.2] 30)) 3 (.slice (some ⟨W.heap.size, 0, none⟩) 1 1) 1 (sp3 s)) := fun W => sp_new W s
  clear hf0 hb0 h hs
  rcases ho0.2 with ⟨rfl, hn⟩ | ⟨g, cap, cur, rfl, _, hg, hcap, _⟩
  · obtain rfl : l = [] := List.eq_nil_of_length_eq_zero hn
    clear ho0 hn
    have HT : Hid (∀ w', Fr w0 w' Nil → SlAt w' 3 (.slice none 0 0) 0 ((([] : List Spot).take 0).flatMap sp3)) := fun w' _ => SlAt.nil w' 3
    have HD2 : Hid (∀ w', Fr w0 w' Nil → SlAt w' 3 (.slice none 0 0) 0 ((([] : List Spot).drop 0).flatMap sp3)) := fun w' _ => SlAt.nil w' 3
    have HADD : Hid (addL [] s = ([] : List Spot).take 0 ++ s :: ([] : List Spot).drop 0) := Lib.hid rfl
    go_enter Tryz.func62, Tryz.ntmps62
    go_wp2_with fail
    go_loopw [5] (fun vk wr => vk = .int .i64 0 ∧ Fr w0 wr Nil) (fun vk _ => (intOf vk).toNat)
    case atStart => exact ⟨by first | rfl | simp, Fr.refl _ _⟩
    case round =>
      obtain ⟨rfl, hf2⟩ := hrel
      have Hf2 := Lib.hid hf2
      obtain ⟨wi, rfl⟩ : ∃ wi : World, wi = wr := ⟨_, rfl⟩
      clear hf2
      go_wp2_with fail
      refine wp_region_sink 11 (KeptN wi) (by kernel_rfl) ?_
      have hSa : KeptN wi wi.drew := KeptN.start wi
      refine tkA 0 hSa ?_
      refine tkA 1 hSa ?_
      refine tkA 2 hSa ?_
      try simp only [Act.put, sA, sB, sC]
      refine skA 3 hSa ?_
      try simp only [Act.put, sA, sB, sC]
      refine skA 4 hSa ?_
      try simp only [Act.put, sA, sB, sC]
      refine skA 5 hSa ?_
      try simp only [Act.put, sA, sB, sC]
      refine skA 6 hSa ?_
      try simp only [Act.put, sA, sB, sC]
      refine skA 7 hSa ?_
      try simp only [Act.put, sA, sB, sC]
      refine skA 8 hSa ?_
      try simp only [Act.put, sA, sB, sC]
      refine skA 9 hSa ?_
      try simp only [Act.put, sA, sB, sC]
      refine tkA 10 hSa ?_
      try simp only [Act.put, sA, sB, sC]
      refine wpAnyS_done (by kernel_rfl) ?_
      have Hf3 := Lib.hid (Hf2.out.trans0 hSa)
      clear hSa Hf2
      generalize wi.drew = wj at *
      go_wp2_with fail
      refine wp_region_sink 11 (KeptN wj) (by kernel_rfl) ?_
      have hSa : KeptN wj wj.drew := KeptN.start wj
      refine tkA 0 hSa ?_
      refine tkA 1 hSa ?_
      refine tkA 2 hSa ?_
      try simp only [Act.put, sA, sB, sC]
      refine skA 3 hSa ?_
      try simp only [Act.put, sA, sB, sC]
      refine skA 4 hSa ?_
      try simp only [Act.put, sA, sB, sC]
      refine skA 5 hSa ?_
      try simp only [Act.put, sA, sB, sC]
      refine skA 6 hSa ?_
      try simp only [Act.put, sA, sB, sC]
      refine skA 7 hSa ?_
      try simp only [Act.put, sA, sB, sC]
      refine skA 8 hSa ?_
      try simp only [Act.put, sA, sB, sC]
      refine skA 9 hSa ?_
      try simp only [Act.put, sA, sB, sC]
      refine tkA 10 hSa ?_
      try simp only [Act.put, sA, sB, sC]
      refine wpAnyS_done (by kernel_rfl) ?_
      have Hf2 := Lib.hid (Hf3.out.trans0 hSa)
      clear hSa Hf3
      generalize wj.drew = wi at *
      have HLB1 : Hid (0 + 0 ≤ 1000000) := by have h9 : 0 + 0 ≤ 1000000 := (by omega); exact h9
      have HLB2 : Hid (0 + 1 ≤ 1000000) := by have h9 : 0 + 1 ≤ 1000000 := (by omega); exact h9
      have HLB3 : Hid (0 + 1 + 0 ≤ 1000000) := by have h9 : 0 + 1 + 0 ≤ 1000000 := (by omega); exact h9
      have hbs := HB0.out.fr Hf2.out (fun h => h)
      have r0 := hbs.cell 0
      have r1 := hbs.cell 1
      have r2 := hbs.cell 2
      clear hbs
      go_wp2_with (at_builtin; refine wpList_app _ rfl _ _ _ rfl spotT (.slice none 0 0) rfl (World.ownsRow_nil _ _ _ _) _ rfl (HT.out _ Hf2.out) (sps_one _) HLB1.out ?_)
      intro a4 c4 w4 ho hg4 hat
      try rw [Nat.zero_add] at ho
      try rw [Nat.zero_add] at hat
      try rw [List.nil_append] at ho
      try rw [Nat.zero_add]
      have Hn4 := Lib.hid (new_of Hf2.out.size hat (fun j hj => by cases hj))
      have hf4 := Hf2.out.grown hg4 (fun j hj _ => by cases hj)
      have hbs := HB0.out.fr hf4 (fun h => h)
      have r0 := hbs.cell 0
      have r1 := hbs.cell 1
      have r2 := hbs.cell 2
      have Ho4 := Lib.hid ho
      have Hf4 := Lib.hid hf4
      clear ho hg4 hat hf4 hbs
      go_wp2_with (at_builtin; refine wpList_app _ rfl _ _ _ rfl spotT (.slice a4 0 c4) rfl (World.ownsRow.alloc Ho4.out _) _ rfl (HONE.out _) HON1.out HLB2.out ?_)
      intro a6 c6 w6 ho hg6 hat
      have Hn6 := Lib.hid (new_of (Nat.le_succ_of_le Hf4.out.size) hat Hn4.out)
      have hf6 : Fr w0 w6 Nil := (Hf4.out.alloc _).grown hg6 (fun j hj hlt => absurd hlt (by have := Hn4.out j hj; omega))
      have Ho6 := Lib.hid ho
      have Hf6 := Lib.hid hf6
      clear ho hg6 hat hf6 r0 r1 r2
      go_wp2_with (at_builtin; refine wpList_app _ rfl _ _ _ rfl spotT (.slice a6 (0 + 1) c6) rfl Ho6.out _ rfl (HD2.out _ Hf6.out) (sps_one _) HLB3.out ?_)
      intro a7 c7 w7 ho hg7 hat
      have Hn7 := Lib.hid (new_of Hf6.out.size hat Hn6.out)
      have hf7 : Fr w0 w7 Nil := Hf6.out.grown hg7 (fun j hj hlt => absurd hlt (by have := Hn6.out j hj; omega))
      have HEND := Lib.hid (add_fin (v := (.slice none 0 0)) (by first | exact ho | (rw [List.append_assoc]; exact ho)) (by first | omega | (simp; done) | (simp; omega)) (Nat.zero_le _) HADD.out (fun j hj => Nat.le_trans HF0.out.size (Hn7.out j hj)) (HF0.out.trans0 hf7))
      clear ho hg7 hat hf7
      go_wp2_with fail
      go_ret
      exact HEND.out
  · clear hg ho0
    have hlc : l.length ≤ cap := hcap
    go_enter Tryz.func62, Tryz.ntmps62
    go_wp2_with fail
    go_loopw [5] (fun vk wr => ∃ k : Nat, vk = .int .i64 (k : Int) ∧ k ≤ l.length ∧ Hid (∀ b ∈ l.drop k, lessS s b = true) ∧ Hid (Fr w0 wr Nil)) (fun vk _ => (intOf vk).toNat)
    case atStart => exact ⟨l.length, by go_num, Nat.le_refl _, (fun b hb => by simp at hb), Fr.refl _ _⟩
    case round =>
      obtain ⟨k, rfl, hkl, HDL, Hf1⟩ := hrel
      obtain ⟨wi, rfl⟩ : ∃ wi : World, wi = wr := ⟨_, rfl⟩
      have hkc : (k : Int) ≤ (cap : Int) := by omega
      go_upto_region 2 with fail
      go_cut [19] from 9 to 19 (fun v19 wx => ∃ b : Bool, v19 = .bool b ∧ Fr w0 wx Nil ∧ Hid (b = true → 0 < k ∧ ∀ x ∈ l.drop (k - 1), lessS s x = true) ∧ Hid (b = false → k = 0 ∨ ∃ y, l[k - 1]? = some y ∧ lessS s y = false))
      case first =>
        have hbs := HB0.out.fr Hf1.out (fun h => h)
        have k1 : ∀ w', KeptN wi w' → w'.cell? ⟨w.heap.size, 0, none⟩ = some (.int .i64 s.1) := KeptN.cell (hbs.cell 0)
        have k2 : ∀ w', KeptN wi w' → w'.cell? ⟨w.heap.size, 1, none⟩ = some (.bool s.2.1) := KeptN.cell (hbs.cell 1)
        have k3 : ∀ w', KeptN wi w' → w'.cell? ⟨w.heap.size, 2, none⟩ = some (.int .i64 s.2.2) := KeptN.cell (hbs.cell 2)
        have hSa : KeptN wi wi.drew := KeptN.start wi
        clear hbs
        cases k with
        | zero =>
          refine wp_region_sink 11 (KeptN wi) (by kernel_rfl) ?_
          refine tkA 0 hSa ?_
          refine tkA 1 hSa ?_
          refine tkA 2 hSa ?_
          try simp only [Act.put, sA, sB, sC]
          refine skA 3 hSa ?_
          try simp only [Act.put, sA, sB, sC]
          refine skA 4 hSa ?_
          try simp only [Act.put, sA, sB, sC]
          refine skA 5 hSa ?_
          try simp only [Act.put, sA, sB, sC]
          refine skA 6 hSa ?_
          try simp only [Act.put, sA, sB, sC]
          refine skA 7 hSa ?_
          try simp only [Act.put, sA, sB, sC]
          refine skA 8 hSa ?_
          try simp only [Act.put, sA, sB, sC]
          refine skA 9 hSa ?_
          try simp only [Act.put, sA, sB, sC]
          refine tkA 10 hSa ?_
          try simp only [Act.put, sA, sB, sC]
          refine wpAnyS_done (by kernel_rfl) ?_
          go_wp2_with fail
          go_meet
          exact ⟨false, rfl, Hf1.out.trans0 hSa, (fun h => by cases h), fun _ => .inl (by first | rfl | trivial)⟩
        | succ k =>
          have hk0 : (0 : Int) < ((k + 1 : Nat) : Int) := by omega
          have hw1 : IntKind.i64.wrap (((k + 1 : Nat) : Int) - 1) = (k : Int) := by rw [show ((k + 1 : Nat) : Int) - 1 = (k : Int) by omega]; exact IntWalk.i64_in _ (by omega)
          have hw2 : IntKind.i64.wrap (k : Int) = (k : Int) := IntWalk.i64_in _ (by omega)
          have hi1 : (k : Int) < (l.length : Int) := by omega
          have hi0 : (0 : Int) ≤ (k : Int) := by omega
          obtain ⟨y, hy⟩ : ∃ y, l[k]? = some y := ⟨_, List.getElem?_eq_getElem (by omega)⟩
          obtain ⟨b', cap', hvv, _, hcl⟩ := HO.out.form (by omega)
          simp only [Value.slice.injEq, Option.some.injEq, Addr.mk.injEq, and_true, true_and] at hvv
          obtain ⟨rfl, rfl⟩ := hvv
          obtain ⟨p0, p1, p2⟩ := hcl k y hy
          have q1 : ∀ w', KeptN wi w' → w'.cell? ⟨g, k * 3, none⟩ = some (.int .i64 y.1) := KeptN.cell (Hf1.out.cell p0 fun h => h)
          have q2 : ∀ w', KeptN wi w' → w'.cell? ⟨g, k * 3 + 1, none⟩ = some (.bool y.2.1) := KeptN.cell (Hf1.out.cell p1 fun h => h)
          have q3 : ∀ w', KeptN wi w' → w'.cell? ⟨g, k * 3 + 2, none⟩ = some (.int .i64 y.2.2) := KeptN.cell (Hf1.out.cell p2 fun h => h)
          have HY := Lib.hid hy
          clear hcl p0 p1 p2 hy
          refine wp_region_sink 11 (KeptN wi) (by kernel_rfl) ?_
          refine tkA 0 hSa ?_
          refine tkA 1 hSa ?_
          refine tkA 2 hSa ?_
          try simp only [Act.put, sA, sB, sC]
          refine tkA 3 hSa ?_ (hy := by intro _ w; have ck1 := k1 _ w; have ck2 := k2 _ w; have ck3 := k3 _ w; go_simp <;> with_reducible rfl)
          try simp only [Act.put, sA, sB, sC]
          refine tkA 4 hSa ?_
          refine tkA 5 hSa ?_
          refine tkA 6 hSa ?_
          refine tkA 7 hSa ?_
          try simp only [Act.put, sA, sB, sC]
          refine tkA 8 hSa ?_ (hy := by intro _ w; have cq1 := q1 _ w; have cq2 := q2 _ w; have cq3 := q3 _ w; go_simp <;> with_reducible rfl)
          try simp only [Act.put, sA, sB, sC]
          refine on1 9 fun K hK => ?_
          go_simp
          refine (rless_any s y _).mono ?_
          rintro e w4 ⟨rfl, hf4⟩
          have hSb : KeptN wi w4 := hSa.next hf4
          refine hK.out _ _ hSb ?_
          clear hK K
          try simp only [Act.put, sA, sB, sC]
          refine tkA 10 hSb ?_
          try simp only [Act.put, sA, sB, sC]
          refine wpAnyS_done (by kernel_rfl) ?_
          go_wp2_with fail
          go_meet
          exact ⟨lessS s y, rfl, Hf1.out.trans0 hSb, fun h => ⟨Nat.succ_pos _, drop_less HDL.out HY.out h⟩, fun h => .inr ⟨y, HY.out, h⟩⟩
      case rest =>
        obtain ⟨b, rfl, hf2, HT1, HT0⟩ := hcut
        obtain ⟨wi, rfl⟩ : ∃ x : World, x = wc := ⟨_, rfl⟩
        have Hf2 := Lib.hid hf2
        clear hf2 Hf1
        cases b with
        | true =>
          obtain ⟨hk0, hdl⟩ := HT1.out rfl
          have HDL2 := Lib.hid hdl
          clear hdl
          go_wp2_with fail
          go_roundw
          case rel => exact ⟨k - 1, by go_num, by omega, HDL2, Hf2⟩
          case measure => simp [intOf]; omega
        | false =>
          go_upto_region 4 with fail
          go_cut [32] from 22 to 32 (fun v32 wx => ∃ b : Bool, v32 = .bool b ∧ Fr w0 wx Nil ∧ Hid (b = true → addL l s = l) ∧ Hid (b = false → addL l s = l.take k ++ s :: l.drop k))
          case first =>
            cases k with
            | zero =>
              go_quiet (fail)
              rename_i nq
              have hfq := Hf2.out.drewN nq
              go_wp2_with fail
              go_meet
              exact ⟨false, rfl, hfq, (fun h => by cases h), fun _ => add_zero HSO.out (by simpa using HDL.out)⟩
            | succ k =>
              have hk0 : (0 : Int) < ((k + 1 : Nat) : Int) := by omega
              have hw1 : IntKind.i64.wrap (((k + 1 : Nat) : Int) - 1) = (k : Int) := by rw [show ((k + 1 : Nat) : Int) - 1 = (k : Int) by omega]; exact IntWalk.i64_in _ (by omega)
              have hw2 : IntKind.i64.wrap (k : Int) = (k : Int) := IntWalk.i64_in _ (by omega)
              have hi1 : (k : Int) < (l.length : Int) := by omega
              have hi0 : (0 : Int) ≤ (k : Int) := by omega
              rcases HT0.out rfl with h | ⟨y, hy, hly⟩
              · omega
              · obtain ⟨b', cap', hvv, _, hcl⟩ := HO.out.form (by omega)
                simp only [Value.slice.injEq, Option.some.injEq, Addr.mk.injEq, and_true, true_and] at hvv
                obtain ⟨rfl, rfl⟩ := hvv
                rw [Nat.add_sub_cancel] at hy
                obtain ⟨p0, p1, p2⟩ := hcl k y hy
                replace p0 := Hf2.out.cell p0 fun h => h
                replace p1 := Hf2.out.cell p1 fun h => h
                replace p2 := Hf2.out.cell p2 fun h => h
                have hbs := HB0.out.fr Hf2.out (fun h => h)
                have r0 : wi.cell? ⟨w.heap.size, 0, none⟩ = some (.int .i64 s.1) := hbs.cell 0
                have r1 : wi.cell? ⟨w.heap.size, 1, none⟩ = some (.bool s.2.1) := hbs.cell 1
                have r2 : wi.cell? ⟨w.heap.size, 2, none⟩ = some (.int .i64 s.2.2) := hbs.cell 2
                have heq := Tryz.eqSp y s
                have HY := Lib.hid hy
                have HLY := Lib.hid hly
                have HEQ : Hid ((decide (y = s) = true → addL l s = l) ∧ (decide (y = s) = false → addL l s = l.take (k + 1) ++ s :: l.drop (k + 1))) :=
                  ⟨fun h => add_in HSO.out (by rw [← of_decide_eq_true h]; exact List.mem_of_getElem? HY.out), fun h => add_take HSO.out HDL.out (Nat.succ_pos _) HY.out HLY.out (of_decide_eq_false h)⟩
                generalize decide (y = s) = dd at *
                obtain ⟨y1, y2, y3⟩ := y
                obtain ⟨s1, s2, s3⟩ := s
                dsimp only at p0 p1 p2 r0 r1 r2
                clear hcl hy hly hbs
                cases dd with
                | false =>
                  go_quiet (fail)
                  rename_i nq
                  have hfq := Hf2.out.drewN nq
                  go_wp2_with fail
                  go_meet
                  exact ⟨false, rfl, hfq, (fun h => by cases h), fun _ => HEQ.out.2 (by first | rfl | trivial)⟩
                | true =>
                  go_quiet (fail)
                  rename_i nq
                  have hfq := Hf2.out.drewN nq
                  go_wp2_with fail
                  go_meet
                  exact ⟨true, rfl, hfq, fun _ => HEQ.out.1 (by first | rfl | trivial), fun h => by cases h⟩
          case rest =>
            obtain ⟨b, rfl, hf3, HA1, HA0⟩ := hcut
            obtain ⟨wi, rfl⟩ : ∃ x : World, x = wc := ⟨_, rfl⟩
            have Hf2 := Lib.hid hf3
            clear hf3
            cases b with
            | true =>
              have HEND : Hid (AddRet w (.slice (some ⟨g, 0, none⟩) l.length cap) (addL l s) (.returned (.slice (some ⟨g, 0, none⟩) l.length cap)) wi) := by
                refine ⟨_, rfl, ?_, fun j hj => .inl hj, HF0.out.trans0 Hf2.out⟩
                rw [HA1.out rfl]
                exact HO.out.fr Hf2.out fun _ _ h => h
              go_wp2_with fail
              go_ret
              exact HEND.out
            | false =>
              have HADD : Hid (addL l s = l.take k ++ s :: l.drop k) := HA0.out rfl
              have HT : Hid (∀ w', Fr w0 w' Nil → SlAt w' 3 (.slice (some ⟨g, 0, none⟩) k cap) k ((l.take k).flatMap sp3)) := fun w' hf => by
                have := ((SlAt.of_own HO.out).1.fr0 hf).take (k := k) (c' := cap) hkl (fun e => by cases e)
                rw [sp_take] at this
                exact this
              have HX : (cap = k ∧ Hid (∀ w', Fr w0 w' Nil → SlAt w' 3 (.slice (some ⟨g, 0, none⟩) 0 0) 0 ((l.drop k).flatMap sp3))) ∨ (cap ≠ k ∧ Hid (∀ w', Fr w0 w' Nil → SlAt w' 3 (.slice (some ⟨g, k * 3, none⟩) (l.length - k) (cap - k)) (l.length - k) ((l.drop k).flatMap sp3))) := by
                by_cases hc1 : cap = k
                · refine .inl ⟨hc1, fun w' hf => ?_⟩
                  have := ((SlAt.of_own HO.out).1.fr0 hf).drop (k := k) hkl hlc
                  rw [sp_drop, if_pos hc1, show cap - k = 0 by omega, show l.length - k = 0 by omega] at this
                  exact this
                · refine .inr ⟨hc1, fun w' hf => ?_⟩
                  have := ((SlAt.of_own HO.out).1.fr0 hf).drop (k := k) hkl hlc
                  rw [sp_drop, if_neg hc1] at this
                  simp only [Option.map_some, Addr.add_lit, Nat.zero_add] at this
                  exact this
              clear HA1 HA0 HT1 HT0 HDL
              rcases HX with ⟨hc1, HD2⟩ | ⟨hc1, HD2⟩
              · have hxk : l.length = k := by omega
                subst hc1
                have HLB1 : Hid (0 + cap ≤ 1000000) := by have h9 : 0 + cap ≤ 1000000 := (by omega); exact h9
                have HLB2 : Hid (cap + 1 ≤ 1000000) := by have h9 : cap + 1 ≤ 1000000 := (by omega); exact h9
                have HLB3 : Hid (cap + 1 + 0 ≤ 1000000) := by have h9 : cap + 1 + 0 ≤ 1000000 := (by omega); exact h9
                have hbs := HB0.out.fr Hf2.out (fun h => h)
                have r0 := hbs.cell 0
                have r1 := hbs.cell 1
                have r2 := hbs.cell 2
                clear hbs
                go_wp2_with (at_builtin; refine wpList_app _ rfl _ _ _ rfl spotT (.slice none 0 0) rfl (World.ownsRow_nil _ _ _ _) _ rfl (HT.out _ Hf2.out) (sps_one _) HLB1.out ?_)
                intro a4 c4 w4 ho hg4 hat
                try rw [Nat.zero_add] at ho
                try rw [Nat.zero_add] at hat
                try rw [List.nil_append] at ho
                try rw [Nat.zero_add]
                have Hn4 := Lib.hid (new_of Hf2.out.size hat (fun j hj => by cases hj))
                have hf4 := Hf2.out.grown hg4 (fun j hj _ => by cases hj)
                have hbs := HB0.out.fr hf4 (fun h => h)
                have r0 := hbs.cell 0
                have r1 := hbs.cell 1
                have r2 := hbs.cell 2
                have Ho4 := Lib.hid ho
                have Hf4 := Lib.hid hf4
                clear ho hg4 hat hf4 hbs
                go_wp2_with (at_builtin; refine wpList_app _ rfl _ _ _ rfl spotT (.slice a4 cap c4) rfl (World.ownsRow.alloc Ho4.out _) _ rfl (HONE.out _) HON1.out HLB2.out ?_)
                intro a6 c6 w6 ho hg6 hat
                have Hn6 := Lib.hid (new_of (Nat.le_succ_of_le Hf4.out.size) hat Hn4.out)
                have hf6 : Fr w0 w6 Nil := (Hf4.out.alloc _).grown hg6 (fun j hj hlt => absurd hlt (by have := Hn4.out j hj; omega))
                have Ho6 := Lib.hid ho
                have Hf6 := Lib.hid hf6
                clear ho hg6 hat hf6 r0 r1 r2
                go_wp2_with (at_builtin; refine wpList_app _ rfl _ _ _ rfl spotT (.slice a6 (cap + 1) c6) rfl Ho6.out _ rfl (HD2.out _ Hf6.out) (sps_one _) HLB3.out ?_)
                intro a7 c7 w7 ho hg7 hat
                have Hn7 := Lib.hid (new_of Hf6.out.size hat Hn6.out)
                have hf7 : Fr w0 w7 Nil := Hf6.out.grown hg7 (fun j hj hlt => absurd hlt (by have := Hn6.out j hj; omega))
                have HEND := Lib.hid (add_fin (v := (.slice (some ⟨g, 0, none⟩) l.length cap)) (by first | exact ho | (rw [List.append_assoc]; exact ho)) (by first | omega | (simp; done) | (simp; omega)) hkl HADD.out (fun j hj => Nat.le_trans HF0.out.size (Hn7.out j hj)) (HF0.out.trans0 hf7))
                clear ho hg7 hat hf7
                go_wp2_with fail
                go_ret
                exact HEND.out
              · skip
                have HLB1 : Hid (0 + k ≤ 1000000) := by have h9 : 0 + k ≤ 1000000 := (by omega); exact h9
                have HLB2 : Hid (k + 1 ≤ 1000000) := by have h9 : k + 1 ≤ 1000000 := (by omega); exact h9
                have HLB3 : Hid (k + 1 + (l.length - k) ≤ 1000000) := by have h9 : k + 1 + (l.length - k) ≤ 1000000 := (by omega); exact h9
                have hbs := HB0.out.fr Hf2.out (fun h => h)
                have r0 := hbs.cell 0
                have r1 := hbs.cell 1
                have r2 := hbs.cell 2
                clear hbs
                go_wp2_with (at_builtin; refine wpList_app _ rfl _ _ _ rfl spotT (.slice none 0 0) rfl (World.ownsRow_nil _ _ _ _) _ rfl (HT.out _ Hf2.out) (sps_one _) HLB1.out ?_)
                intro a4 c4 w4 ho hg4 hat
                try rw [Nat.zero_add] at ho
                try rw [Nat.zero_add] at hat
                try rw [List.nil_append] at ho
                try rw [Nat.zero_add]
                have Hn4 := Lib.hid (new_of Hf2.out.size hat (fun j hj => by cases hj))
                have hf4 := Hf2.out.grown hg4 (fun j hj _ => by cases hj)
                have hbs := HB0.out.fr hf4 (fun h => h)
                have r0 := hbs.cell 0
                have r1 := hbs.cell 1
                have r2 := hbs.cell 2
                have Ho4 := Lib.hid ho
                have Hf4 := Lib.hid hf4
                clear ho hg4 hat hf4 hbs
                go_wp2_with (at_builtin; refine wpList_app _ rfl _ _ _ rfl spotT (.slice a4 k c4) rfl (World.ownsRow.alloc Ho4.out _) _ rfl (HONE.out _) HON1.out HLB2.out ?_)
                intro a6 c6 w6 ho hg6 hat
                have Hn6 := Lib.hid (new_of (Nat.le_succ_of_le Hf4.out.size) hat Hn4.out)
                have hf6 : Fr w0 w6 Nil := (Hf4.out.alloc _).grown hg6 (fun j hj hlt => absurd hlt (by have := Hn4.out j hj; omega))
                have Ho6 := Lib.hid ho
                have Hf6 := Lib.hid hf6
                clear ho hg6 hat hf6 r0 r1 r2
                go_wp2_with (at_builtin; refine wpList_app _ rfl _ _ _ rfl spotT (.slice a6 (k + 1) c6) rfl Ho6.out _ rfl (HD2.out _ Hf6.out) (sps_one _) HLB3.out ?_)
                intro a7 c7 w7 ho hg7 hat
                have Hn7 := Lib.hid (new_of Hf6.out.size hat Hn6.out)
                have hf7 : Fr w0 w7 Nil := Hf6.out.grown hg7 (fun j hj hlt => absurd hlt (by have := Hn6.out j hj; omega))
                have HEND := Lib.hid (add_fin (v := (.slice (some ⟨g, 0, none⟩) l.length cap)) (by first | exact ho | (rw [List.append_assoc]; exact ho)) (by first | omega | (simp; done) | (simp; omega)) hkl HADD.out (fun j hj => Nat.le_trans HF0.out.size (Hn7.out j hj)) (HF0.out.trans0 hf7))
                clear ho hg7 hat hf7
                go_wp2_with fail
                go_ret
                exact HEND.out
end Go.Proofs.YtokeciekncincabGreat
namespace Go.Proofs.YtokeciekncincabGreat
open Go Go.RowKit Go.Maps

theorem addL_len (l : List Spot) (s : Spot) : (addL l s).length ≤ l.length + 1 := by
  induction l with
  | nil => exact Nat.le_refl _
  | cons a l ih =>
    unfold addL
    split
    · exact Nat.le_succ _
    · split
      · exact Nat.le_refl _
      · rw [List.length_cons, List.length_cons]; omega
theorem foldl_addL_len (l : List LkE) : ∀ r : List Spot, (l.foldl (fun l e => addL l e.s) r).length ≤ r.length + l.length := by
  induction l with
  | nil => intro r; exact Nat.le_refl _
  | cons e l ih =>
    intro r
    have h1 := ih (addL r e.s)
    have h2 := addL_len r e.s
    rw [List.foldl_cons, List.length_cons]
    omega
theorem spotsD_len (H : List LkE) (who : Int) : (spotsL H who).length ≤ H.length := by
  unfold spotsL
  have h1 := foldl_addL_len (H.filter fun e => e.who == who) []
  have h2 := List.length_filter_le (fun e => e.who == who) H
  rw [List.length_nil] at h1
  omega
theorem spotsL_take {H : List LkE} {who : Int} {i : Nat} {e : LkE} (h : H[i]? = some e) : spotsL (H.take (i + 1)) who = if e.who == who then addL (spotsL (H.take i) who) e.s else spotsL (H.take i) who := by
  unfold spotsL
  rw [take_filter h, List.foldl_append]
  cases e.who == who <;> rfl
/-- A row of spots made since the heap was B long. -/
def NewPs (B : Nat) (w : World) (v : Value) (l : List Spot) : Prop := OwnSp w v l ∧ ∀ k, v.ownBlock = some k → B ≤ k
set_option maxRecDepth 100000 in
set_option maxHeartbeats 4000000 in
theorem rspots_any {mb : Nat} {D : LkS} {S : Nat → Prop} (who : Int) (w : World) (h : DkA w mb D S) (hl : D.H.length ≤ 100000) :
    Calls Tryz.prog 28 #[mkp mb, .int .i64 who] w fun e w' => ∃ v, e = .returned v ∧ NewPs w.heap.size w' v (spotsL D.H who) ∧ Fr w w' Nil := by
  obtain ⟨hv, wv, hg⟩ := h
  obtain ⟨ha, hc, rfl⟩ := hg.holds.shape
  have HO := Lib.hid hg.holds
  have HRT := Lib.hid hg.root
  generalize D.H = H at *
  clear hg
  go_enter Tryz.func28, Tryz.ntmps28
  go_wp2_with fail
  go_loopw [5, 6] (fun vo vi wr => ∃ i : Nat, vi = .int .i64 (i : Int) ∧ i ≤ H.length ∧ Hid (NewPs w.heap.size wr vo (spotsL (H.take i) who)) ∧ Hid (Fr w wr Nil)) (fun _ vi _ => H.length - (intOf vi).toNat)
  case atStart => exact ⟨0, by go_num, by omega, ⟨World.ownsRow_nil _ _ _ _, fun k hk => by cases hk⟩, Fr.refl _ _⟩
  case round =>
    obtain ⟨i, rfl, hi, HN, HF⟩ := hrel
    obtain ⟨wo, rfl⟩ : ∃ wo : World, wo = wr := ⟨_, rfl⟩
    have m1 : wo.cell? ⟨mb, 1, none⟩ = some (.slice ha H.length hc) := (HRT.out.fr HF.out fun h => h).cell 1
    by_cases hlt : i < H.length
    · have hil : (i : Int) < (H.length : Int) := by omega
      obtain ⟨b, cap', hvv, _, hcl⟩ := HO.out.form (by omega)
      simp only [Value.slice.injEq, true_and] at hvv
      obtain ⟨rfl, rfl⟩ := hvv
      obtain ⟨e, he⟩ : ∃ e, H[i]? = some e := ⟨_, List.getElem?_eq_getElem hlt⟩
      obtain ⟨p0, p1, p2, p3, p4⟩ := hcl i e he
      replace p0 := HF.out.cell p0 (fun h => h)
      replace p1 := HF.out.cell p1 (fun h => h)
      replace p2 := HF.out.cell p2 (fun h => h)
      replace p3 := HF.out.cell p3 (fun h => h)
      have HTK : Hid (spotsL (H.take (i + 1)) who = if e.who == who then addL (spotsL (H.take i) who) e.s else spotsL (H.take i) who) := spotsL_take he
      have cA := radd_any e.s wo HN.out.1 (spotsL_is _ _).1 (by have h1 := spotsD_len (H.take i) who; rw [List.length_take] at h1; omega)
      clear hcl he p4
      obtain ⟨⟨e1, e2, e3⟩, ew, em⟩ := e
      dsimp only at p0 p1 p2 p3 cA
      dsimp only at HTK
      cases hw : (ew == who) with
      | false =>
        go_wp2_with fail
        go_roundw
        case rel =>
          refine ⟨i + 1, by go_num, by omega, ?_, HF⟩
          show NewPs _ _ _ _
          rw [HTK.out, hw, if_neg (by decide)]; exact HN.out
        case measure => simp [intOf]; omega
      | true =>
        go_wp2_with fail
        refine cA.mono ?_
        rintro e w2 ⟨v', rfl, ho, hb, hf⟩
        have HN2 : Hid (NewPs w.heap.size w2 v' (spotsL (H.take (i + 1)) who)) := by
          have h9 : NewPs w.heap.size w2 v' (spotsL (H.take (i + 1)) who) := by
            rw [HTK.out, hw, if_pos rfl]
            refine ⟨ho, fun k hk => ?_⟩
            rcases hb k hk with h | h
            · exact HN.out.2 k h
            · have := HF.out.size; omega
          exact h9
        have HF2 := Lib.hid (HF.out.trans0 hf)
        clear ho hb hf cA
        go_wp2_with fail
        go_roundw
        case rel => exact ⟨i + 1, by go_num, by omega, HN2, HF2⟩
        case measure => simp [intOf]; omega
    · obtain rfl : i = H.length := by omega
      have HN2 := HN.out
      rw [List.take_length] at HN2
      go_wp2_with fail
      go_ret
      exact ⟨_, rfl, HN2, HF.out⟩
end Go.Proofs.YtokeciekncincabGreat
namespace Go.Proofs.YtokeciekncincabGreat
open Go Go.RowKit Go.Maps

theorem regrant_small (s : Spot) : ∀ (t : Nat) (D : LkS), DkB D D.W.length → DkB (regrantL t D s).2 (regrantL t D s).2.W.length ∧ (regrantL t D s).1.length + (regrantL t D s).2.W.length ≤ D.W.length
  | 0, D, h => ⟨h, by show 0 + D.W.length ≤ _; omega⟩
  | t + 1, D, h => by
    cases hq : queueL D.H D.W s with
    | nil => rw [regrant_nil hq]; exact ⟨h, by show 0 + D.W.length ≤ _; omega⟩
    | cons e q =>
      cases hc : canL D.H e.who s e.m with
      | false => rw [regrant_no hq hc]; exact ⟨h, by show 0 + D.W.length ≤ _; omega⟩
      | true =>
        rw [regrant_yes hq hc]
        have he : e ∈ D.W := (queueL_mem (show e ∈ queueL D.H D.W s by rw [hq]; exact List.mem_cons_self)).1
        have hl := dropA_len he
        have h1 : DkB (grantL D e s) (dropA D.W e.who).length := ((h.dropW e.who).le (t' := (dropA D.W e.who).length + 1) (by omega)).put e.who s (h.2.1 e he)
        obtain ⟨h2, h3⟩ := regrant_small s t (grantL D e s) h1
        refine ⟨h2, ?_⟩
        have h4 : (regrantL t (grantL D e s) s).1.length + (regrantL t (grantL D e s) s).2.W.length ≤ (dropA D.W e.who).length := h3
        rw [List.length_cons]
        show _ + (regrantL t (grantL D e s) s).2.W.length ≤ _
        omega
theorem woken_at {l : List Spot} {i : Nat} {s : Spot} (h : l[i]? = some s) (D : LkS) : wokenL D (l.drop i) = ((regrantL D.W.length D s).1 ++ (wokenL (regrantL D.W.length D s).2 (l.drop (i + 1))).1, (wokenL (regrantL D.W.length D s).2 (l.drop (i + 1))).2) := by
  have hi : i < l.length := by
    rcases Nat.lt_or_ge i l.length with h1 | h1
    · exact h1
    · rw [List.getElem?_eq_none h1] at h; cases h
  rw [List.drop_eq_getElem_cons hi]
  rw [List.getElem?_eq_getElem hi] at h
  cases h
  rfl
theorem ints_ones (xs : List Int) : ∀ u ∈ xs.map (Value.int .i64), u.oneCell' = true := by
  intro u hu
  obtain ⟨x, _, rfl⟩ := List.mem_map.1 hu
  rfl
/-- Where the loop stands. -/
def LvAt (w0 : World) (S : Nat → Prop) (mb : Nat) (av : Value) (all : List Spot) (L : List Int) (D' : LkS) (vw vi : Value) (wr : World) : Prop :=
  ∃ (i n : Nat) (a : Option Addr) (c : Nat) (pre : List Int) (D1 : LkS) (S1 : Nat → Prop), vi = .int .i64 (i : Int) ∧ vw = .slice a n c ∧ i ≤ all.length ∧ Hid (pre.length = n) ∧ Hid (n + D1.W.length ≤ 900000) ∧
    Hid (NewN w0.heap.size wr (.slice a n c) pre) ∧ Hid (DkA wr mb D1 S1) ∧ Hid (Fr w0 wr S) ∧ Hid (∀ k, S1 k → S k ∨ w0.heap.size ≤ k) ∧ Hid (∀ k, (Value.slice a n c).ownBlock = some k → ¬ S1 k) ∧
    Hid (OwnSp wr av all) ∧ Hid (∀ k, av.ownBlock = some k → ¬ S1 k ∧ (Value.slice a n c).ownBlock ≠ some k) ∧ Hid (DkB D1 D1.W.length) ∧ Hid (L = pre ++ (wokenL D1 (all.drop i)).1 ∧ D' = (wokenL D1 (all.drop i)).2)
def AllAt (w0 : World) (all : List Spot) (v : Value) (wx : World) : Prop := NewPs w0.heap.size wx v all ∧ Fr w0 wx Nil
set_option maxRecDepth 100000 in
set_option maxHeartbeats 8000000 in
theorem rleave_any {mb : Nat} {D : LkS} {S : Nat → Prop} (who : Int) (w : World) (h : DkA w mb D S) (hB : DkB D D.W.length) (hl : D.H.length ≤ 90000) :
    Calls Tryz.prog 31 #[mkp mb, .int .i64 who] w fun e w' => ∃ v, e = .returned v ∧ GrantRet w S mb (leaveL D who).1 (leaveL D who).2 v w' := by
  have HA := Lib.hid h
  have HDB := Lib.hid hB
  have hwl := hB.2.2.2
  have cS := rspots_any who w h (by omega)
  obtain ⟨L, hL⟩ : ∃ L, (leaveL D who).1 = L := ⟨_, rfl⟩
  obtain ⟨D', hD'⟩ : ∃ D', (leaveL D who).2 = D' := ⟨_, rfl⟩
  rw [hL, hD']
  obtain ⟨all, hall⟩ : ∃ all, leaveAll D who = all := ⟨_, rfl⟩
  unfold leaveL at hL hD'
  rw [hall] at hL hD'
  have HL := Lib.hid hL
  have HD' := Lib.hid hD'
  have HALL := Lib.hid hall
  have hal9 : all.length ≤ 90001 := by
    rw [← hall]
    have h1 := spotsD_len D.H who
    unfold leaveAll
    cases wishL D.W who with
    | none => show (spotsL D.H who).length ≤ _; omega
    | some e => have h2 := addL_len (spotsL D.H who) e.s; show (addL (spotsL D.H who) e.s).length ≤ _; omega
  have HLT : Hid (∀ k, S k → k < w.heap.size) := h.lt
  clear h hB hL hD' hall
  go_enter Tryz.func31, Tryz.ntmps31
  go_wp2_with fail
  refine cS.mono ?_
  rintro e w1 ⟨v1, rfl, hn1, hf1⟩
  have HN1 := Lib.hid hn1
  have HF1 := Lib.hid hf1
  have HA1 := Lib.hid (HA.out.fr0 hf1)
  clear cS hn1 hf1
  have cW := rwish_any who w1 HA1.out (by omega)
  go_wp2_with fail
  refine cW.mono ?_
  rintro e w2 ⟨r, rfl, hr, hw2⟩
  subst hw2
  obtain ⟨w1, rfl⟩ : ∃ x, x = w2 := ⟨_, rfl⟩
  have HR := Lib.hid hr
  clear cW hr
  go_upto_if 16 with fail
  go_cut [5] from 17 to 26 (fun v5 wx => AllAt w all v5 wx)
  case first =>
    rcases HR.out with ⟨rfl, hn⟩ | ⟨i, e, rfl, he, hs⟩
    · have hge : ¬ ((-1 : Int) ≥ 0) := by decide
      have hal := HALL.out
      unfold leaveAll at hal
      rw [hn] at hal
      have HAL : Hid (spotsL D.H who = all) := hal
      clear hn hal
      go_wp2_with fail
      go_meet
      exact ⟨by rw [← HAL.out]; exact HN1.out, HF1.out⟩
    · have hal := HALL.out
      unfold leaveAll at hal
      rw [hs] at hal
      have HAL : Hid (addL (spotsL D.H who) e.s = all) := hal
      have hge : ((i : Nat) : Int) ≥ 0 := by omega
      have hilt : i < D.W.length := by
        rcases Nat.lt_or_ge i D.W.length with h | h
        · exact h
        · rw [List.getElem?_eq_none h] at he; cases he
      have hil : (i : Int) < (D.W.length : Int) := by omega
      obtain ⟨hv1, wv1, hg⟩ := HA1.out
      obtain ⟨b, cap', hvv, _, hcl⟩ := hg.wishes.form (by omega)
      subst hvv
      obtain ⟨p0, p1, p2, _, _⟩ := hcl i e he
      have m2 : w1.cell? ⟨mb, 2, none⟩ = some (.slice (some ⟨b, 0, none⟩) D.W.length cap') := hg.root.cell 2
      have cA := radd_any e.s w1 HN1.out.1 (spotsL_is _ _).1 (by have h1 := spotsD_len D.H who; omega)
      clear hal hs he hcl hg
      go_wp2_with fail
      refine cA.mono ?_
      rintro e2 w3 ⟨v', rfl, ho, hb, hf⟩
      have HEND : Hid (AllAt w all v' w3) := by
        have h9 : AllAt w all v' w3 := by
          refine ⟨⟨?_, fun k hk => ?_⟩, HF1.out.trans0 hf⟩
          · rw [← HAL.out]; exact ho
          · rcases hb k hk with h | h
            · exact HN1.out.2 k h
            · have := HF1.out.size; omega
        exact h9
      clear cA ho hb hf
      go_wp2_with fail
      go_meet
      exact HEND.out
  case rest =>
    obtain ⟨hna, hfa⟩ := hcut
    obtain ⟨wa, rfl⟩ : ∃ wa, wa = wc := ⟨_, rfl⟩
    have HNA := Lib.hid hna
    have HFA := Lib.hid hfa
    have HAA := Lib.hid (HA.out.fr0 hfa)
    clear hna hfa HA1 HN1 HF1 HR HALL
    obtain ⟨hv1, wv1, hg1⟩ := HAA.out
    have HG1 := Lib.hid hg1
    have m1 : wa.cell? ⟨mb, 1, none⟩ = some hv1 := hg1.root.cell 1
    have cD := rdrop_any who (0, false, 0) true wa hg1.holds (by omega)
    rw [dropB_all] at cD
    clear hg1
    obtain ⟨aa, ac, rfl⟩ := HNA.out.1.shape
    have HAB : Hid (∀ k, (Value.slice aa all.length ac).ownBlock = some k → w.heap.size ≤ k ∧ k < wa.heap.size) := fun k hk => ⟨HNA.out.2 k hk, HNA.out.1.lt hk⟩
    go_wp2_with fail
    refine cD.mono ?_
    rintro e w3 ⟨v4, rfl, hn4, hf4⟩
    obtain ⟨vn, hvn⟩ : ∃ vn, (dropA D.H who).length = vn := ⟨_, rfl⟩
    obtain ⟨va, vc, rfl⟩ := hn4.1.shape
    rw [hvn] at hn4 ⊢
    have hrt := HG1.out.root.fr hf4 fun h => h
    have c1 := hrt.cell 1
    have f1 := hrt.free 1
    have hend := HG1.out.setH hf4 hn4.1 hn4.2
    have hz4 : (w3.setCell ⟨mb, 1, none⟩ (.slice va vn vc)).heap.size = w3.heap.size := by simp
    have m2 := hend.1.root.cell 2
    have cD2 := rdrop_any who (0, false, 0) true _ hend.1.wishes (by show D.W.length ≤ _; omega)
    rw [dropB_all] at cD2
    have HN4 : Hid (∀ k, (Value.slice va vn vc).ownBlock = some k → wa.heap.size ≤ k) := hn4.2
    have HG4 := Lib.hid hend.1
    have HF4 := Lib.hid hend.2
    have HFS : Hid (Fr wa w3 Nil) := hf4
    clear hrt hn4 hf4 cD m1 hvn hend
    go_wp2_with fail
    refine cD2.mono ?_
    rintro e w5 ⟨v6, rfl, hn6, hf6⟩
    obtain ⟨un, hun⟩ : ∃ un, (dropA D.W who).length = un := ⟨_, rfl⟩
    obtain ⟨ua, uc, hu⟩ := hn6.1.shape
    rw [show ({ D with H := dropA D.H who } : LkS).W = D.W from rfl, hun] at hu
    subst hu
    have hrt := HG4.out.root.fr hf6 fun h => h
    have c2 := hrt.cell 2
    have f2 := hrt.free 2
    have hend := HG4.out.setW hf6 (fun _ h => False.elim h) hn6.1 fun k hk => .inr (hn6.2 k hk)
    obtain ⟨W6, hW6⟩ : ∃ W6, w5.setCell ⟨mb, 2, none⟩ (.slice ua un uc) = W6 := ⟨_, rfl⟩
    rw [hW6] at hend
    have HN6 : Hid (∀ k, (Value.slice ua un uc).ownBlock = some k → wa.heap.size ≤ k) := fun k hk => by
      have h1 := hn6.2 k hk
      rw [hz4] at h1
      have := HFS.out.size
      omega
    obtain ⟨S6, hS6⟩ : ∃ S6 : Nat → Prop, S6 = (fun k => (fun k => S k ∨ (Value.slice va vn vc).ownBlock = some k) k ∨ (Value.slice ua un uc).ownBlock = some k) := ⟨_, rfl⟩
    rw [← hS6] at hend
    have HS6 : Hid (∀ k, S6 k → S k ∨ wa.heap.size ≤ k) := fun k hk => by
      rw [hS6] at hk
      rcases hk with (h | h) | h
      · exact .inl h
      · exact .inr (HN4.out k h)
      · exact .inr (HN6.out k h)
    have HA6 : Hid (DkA W6 mb { D with H := dropA D.H who, W := dropA D.W who } S6) := ⟨_, _, hend.1⟩
    have hw6 : Fr wa W6 S := (HF4.out.mono fun k _ h => by have h : k = mb := h; rw [h]; exact HG1.out.inB).trans hend.2 fun k hk h => by
      rcases h with h | h
      · exact h
      · have := HN4.out k h; omega
    have HF6 : Hid (Fr w W6 S) := HFA.out.of_nil.trans hw6 fun _ _ h => h
    have HO6 : Hid (OwnSp W6 (.slice aa all.length ac) all) := HNA.out.1.fr hw6 fun k hk h => by have := HLT.out k h; have := (HAB.out k hk).1; omega
    have HB6 : Hid (DkB { D with H := dropA D.H who, W := dropA D.W who } (dropA D.W who).length) := ((HDB.out.dropHA who).dropW who).le (List.length_filter_le _ _)
    have hdl : (dropA D.W who).length ≤ D.W.length := List.length_filter_le _ _
    have HZA := HFA.out.size
    clear hrt hend hw6 hS6 hn6 hf6 cD2 HG4 HF4 HFS hz4 m2 hun c1 f1
    go_wp2_with fail
    try rw [hW6]
    clear c2 f2 hW6
    go_loopw [7, 8] (fun vw vi wr => LvAt w S mb (.slice aa all.length ac) all L D' vw vi wr) (fun _ vi _ => all.length - (intOf vi).toNat)
    case atStart =>
      refine ⟨0, 0, none, 0, [], _, S6, by go_num, rfl, by omega, rfl, ?_, NewN.nil _ _, HA6.out, HF6.out, fun k hk => ?_, (fun k hk => by cases hk), HO6.out, fun k hk => ⟨fun h => ?_, fun e => by cases e⟩, HB6.out, HL.out.symm, HD'.out.symm⟩
      · show 0 + (dropA D.W who).length ≤ _; omega
      · rcases HS6.out k hk with h | h
        · exact .inl h
        · right; omega
      · have h1 := HAB.out k hk
        rcases HS6.out k h with h | h
        · have := HLT.out k h; omega
        · omega
    case round =>
      clear HA6 HF6 HO6 HB6 HL HD' HA HAA HNA HFA HG1 HS6 HN6 HN4 HDB hdl
      obtain ⟨i, n, a, c, pre, D1, S1, rfl, rfl, hi, HPN, HNT, HN, HA, HF, HS, HFR, HO, HOF, HDB, HEQ⟩ := hrel
      obtain ⟨wo, rfl⟩ : ∃ wo : World, wo = wr := ⟨_, rfl⟩
      by_cases hlt : i < all.length
      · have hil : (i : Int) < (all.length : Int) := by omega
        obtain ⟨b, cap', hvv, _, hcl⟩ := HO.out.form (by omega)
        simp only [Value.slice.injEq, true_and] at hvv
        obtain ⟨rfl, rfl⟩ := hvv
        obtain ⟨s, hs⟩ : ∃ s, all[i]? = some s := ⟨_, List.getElem?_eq_getElem hlt⟩
        obtain ⟨p0, p1, p2⟩ := hcl i s hs
        have hwk := woken_at hs D1
        have hsm := regrant_small s D1.W.length D1 HDB.out
        have cR := rregrant_any s wo HA.out HDB.out
        have HWK := Lib.hid hwk
        have HSM := Lib.hid hsm
        clear hcl hs hwk hsm
        obtain ⟨xs, hxs⟩ : ∃ xs, (regrantL D1.W.length D1 s).1 = xs := ⟨_, rfl⟩
        obtain ⟨D2, hD2⟩ : ∃ D2, (regrantL D1.W.length D1 s).2 = D2 := ⟨_, rfl⟩
        rw [hxs, hD2] at cR HWK HSM
        clear hxs hD2
        go_wp2_with fail
        refine cR.mono ?_
        rintro e w8 ⟨v8, rfl, S8, n8, a8, f8, s8, r8⟩
        obtain ⟨ra, rc, rfl⟩ := n8.1.shape
        have HN8 : Hid (NewN w.heap.size w8 (.slice a n c) pre) := ⟨HN.out.1.fr f8 fun k hk h => HFR.out k hk h, HN.out.2⟩
        have HO8 : Hid (OwnSp w8 (.slice (some ⟨b, 0, none⟩) all.length ac) all) := HO.out.fr f8 fun k hk h => (HOF.out k hk).1 h
        have HFR8 : Hid (∀ k, (Value.slice a n c).ownBlock = some k → ¬ S8 k) := fun k hk h => by
          rcases s8 k h with h | h
          · exact HFR.out k hk h
          · have := HN.out.1.lt k hk; omega
        have HOF8 : Hid (∀ k, (Value.slice (some ⟨b, 0, none⟩) all.length ac).ownBlock = some k → ¬ S8 k) := fun k hk h => by
          rcases s8 k h with h | h
          · exact (HOF.out k hk).1 h
          · have := HO.out.lt hk; omega
        have HA8 := Lib.hid a8
        have hwz := HF.out.size
        have HF8 : Hid (Fr w w8 S) := HF.out.trans f8 fun k hk h => by
          rcases HS.out k h with h | h
          · exact h
          · omega
        have HS8 : Hid (∀ k, S8 k → S k ∨ w.heap.size ≤ k) := fun k h => by
          rcases s8 k h with h | h
          · exact HS.out k h
          · right; omega
        have HXR := Lib.hid (SlAt.of_own n8.1).1
        have HOR := Lib.hid (HN8.out.row HPN.out (Fr.refl w8 Nil))
        have HLB : Hid (n + xs.length ≤ 1000000) := by
          have h1 := HSM.out.2
          have h2 := HNT.out
          have h9 : n + xs.length ≤ 1000000 := by omega
          exact h9
        have HZ8 := Lib.hid f8.size
        clear n8 a8 f8 s8 r8 cR p0 p1 p2 hwz
        go_wp2_with (at_builtin; refine wpList_app _ rfl _ _ 40 rfl sl64 (.slice a n c) rfl HOR.out _ rfl HXR.out (ints_ones _) HLB.out ?_)
        intro ga gc W9 ho9 hg9 hb9
        have hf9 : Fr w8 W9 (fun k => (Value.slice a n c).ownBlock = some k) := (Fr.refl w8 _).grown hg9 fun k hk _ => hk
        have HLN : Hid ((pre ++ xs).length = n + xs.length) := by
          show _ = _
          rw [List.length_append, HPN.out]
        have HN9 : Hid (NewN w.heap.size W9 (.slice ga (n + xs.length) gc) (pre ++ xs)) := by
          refine ⟨?_, fun k hk => ?_⟩
          · unfold OwnInts
            rw [HLN.out, List.map_append]
            exact ho9
          · rcases hb9 with h | h
            · exact HN8.out.2 k (h.symm.trans hk)
            · rw [h] at hk
              cases hk
              exact HF8.out.size
        have HFR9 : Hid (∀ k, (Value.slice ga (n + xs.length) gc).ownBlock = some k → ¬ S8 k ∧ (Value.slice (some ⟨b, 0, none⟩) all.length ac).ownBlock ≠ some k) := fun k hk => by
          rcases hb9 with h | h
          · have h2 := h.symm.trans hk
            exact ⟨HFR8.out k h2, fun h3 => (HOF.out k h3).2 h2⟩
          · rw [h] at hk
            cases hk
            exact ⟨fun h => by have := HA8.out.lt _ h; omega, fun h => by have := HO8.out.lt h; omega⟩
        have HA9 := Lib.hid (HA8.out.fr hf9 fun k hk h => HFR8.out k h hk)
        have HO9 := Lib.hid (HO8.out.fr hf9 fun k hk h => (HOF.out k hk).2 h)
        have HF9 : Hid (Fr w W9 S) := HF8.out.trans hf9 fun k hk h => by have := HN8.out.2 k h; omega
        clear ho9 hg9 hb9 hf9
        go_wp2_with fail
        go_roundw
        case rel =>
          refine ⟨i + 1, n + xs.length, ga, gc, pre ++ xs, D2, S8, by go_num, rfl, by omega, HLN.out, ?_, HN9.out, HA9.out, HF9.out, HS8.out, (fun k hk => (HFR9.out k hk).1), HO9.out, fun k hk => ⟨HOF8.out k hk, fun h => (HFR9.out k h).2 hk⟩, HSM.out.1, ?_⟩
          · have h1 := HSM.out.2
            have h2 := HNT.out
            show n + xs.length + D2.W.length ≤ _
            omega
          · obtain ⟨h1, h2⟩ := HEQ.out
            rw [HWK.out] at h1 h2
            exact ⟨by rw [h1, List.append_assoc], h2⟩
        case measure => simp [intOf]; omega
      · obtain rfl : i = all.length := by omega
        have HEND : Hid (GrantRet w S mb L D' (.slice a n c) wo) := by
          obtain ⟨h1, h2⟩ := HEQ.out
          rw [List.drop_length] at h1 h2
          have h3 : L = pre := by rw [h1]; show pre ++ [] = pre; rw [List.append_nil]
          have h4 : D' = D1 := h2
          rw [h3, h4]
          exact ⟨S1, HN.out, HA.out, HF.out, HS.out, HFR.out⟩
        go_wp2_with fail
        go_ret
        exact ⟨_, rfl, HEND.out⟩
end Go.Proofs.YtokeciekncincabGreat
namespace Go.Proofs.YtokeciekncincabGreat
open Go Go.RowKit Go.Maps

/-- A number at its place, if it is not there. -/
def addN : List Int → Int → List Int
  | [], s => [s]
  | a :: l, s => if a = s then a :: l else if s < a then s :: a :: l else a :: addN l s
theorem addN_mem (l : List Int) (s x : Int) : x ∈ addN l s ↔ x ∈ l ∨ x = s := by
  induction l with
  | nil => simp [addN]
  | cons a l ih =>
    unfold addN
    split
    · rename_i h
      subst h
      simp only [List.mem_cons]
      constructor
      · exact .inl
      · rintro (h | h)
        · exact h
        · exact .inl h
    · split
      · simp only [List.mem_cons]
        constructor
        · rintro (h | h | h)
          · exact .inr h
          · exact .inl (.inl h)
          · exact .inl (.inr h)
        · rintro ((h | h) | h)
          · exact .inr (.inl h)
          · exact .inr (.inr h)
          · exact .inl h
      · rw [List.mem_cons, ih, List.mem_cons]
        constructor
        · rintro (h | h | h)
          · exact .inl (.inl h)
          · exact .inl (.inr h)
          · exact .inr h
        · rintro ((h | h) | h)
          · exact .inl h
          · exact .inr (.inl h)
          · exact .inr (.inr h)
theorem addN_inc {l : List Int} (h : Inc l) (s : Int) : Inc (addN l s) := by
  induction l with
  | nil => exact List.pairwise_singleton _ _
  | cons a l ih =>
    unfold Inc at h
    rw [List.pairwise_cons] at h
    unfold addN
    split
    · exact List.pairwise_cons.2 h
    · rename_i hne
      split
      · rename_i hl
        refine List.pairwise_cons.2 ⟨fun x hx => ?_, List.pairwise_cons.2 h⟩
        rcases List.mem_cons.1 hx with rfl | hx
        · exact hl
        · have := h.1 x hx; omega
      · rename_i hl
        refine List.pairwise_cons.2 ⟨fun x hx => ?_, ih h.2⟩
        rcases (addN_mem l s x).1 hx with hx | rfl
        · exact h.1 x hx
        · omega
theorem addN_len (l : List Int) (s : Int) : (addN l s).length ≤ l.length + 1 := by
  induction l with
  | nil => exact Nat.le_refl _
  | cons a l ih =>
    unfold addN
    split
    · exact Nat.le_succ _
    · split
      · exact Nat.le_refl _
      · rw [List.length_cons, List.length_cons]; omega
theorem addn_at {A B : List Int} {s : Int} (h : Inc (A ++ B)) (hB : ∀ b ∈ B, s < b) (hA : ∀ a ∈ A.getLast?, a < s) : addN (A ++ B) s = A ++ s :: B := by
  refine inc_ext (addN_inc h s) ?_ fun x => ?_
  · unfold Inc at h ⊢
    rw [List.pairwise_append] at h ⊢
    have hlt : ∀ a ∈ A, a < s := fun a ha => by
      have hne : A ≠ [] := List.ne_nil_of_mem ha
      obtain ⟨l, hl⟩ : ∃ l, A.getLast? = some l := ⟨A.getLast hne, List.getLast?_eq_some_getLast hne⟩
      have h3 := hA l hl
      obtain ⟨A', rfl⟩ : ∃ A', A = A' ++ [l] := by
        rw [List.getLast?_eq_some_iff] at hl
        exact hl
      rcases List.mem_append.1 ha with ha | ha
      · have h4 := (List.pairwise_append.1 h.1).2.2 a ha l (List.mem_singleton.2 rfl)
        omega
      · rw [List.mem_singleton] at ha; subst ha; exact h3
    refine ⟨h.1, List.pairwise_cons.2 ⟨hB, h.2.1⟩, fun a ha x hx => ?_⟩
    rcases List.mem_cons.1 hx with rfl | hx
    · exact hlt a ha
    · exact h.2.2 a ha x hx
  · rw [addN_mem]
    simp only [List.mem_append, List.mem_cons]
    constructor
    · rintro ((h | h) | h)
      · exact .inl h
      · exact .inr (.inr h)
      · exact .inr (.inl h)
    · rintro (h | h | h)
      · exact .inl (.inl h)
      · exact .inr h
      · exact .inl (.inr h)
theorem addn_in {l : List Int} {s : Int} (h : Inc l) (hs : s ∈ l) : addN l s = l := by
  refine inc_ext (addN_inc h s) h fun x => ?_
  rw [addN_mem]
  exact ⟨fun h => h.elim id fun e => e ▸ hs, .inl⟩
theorem addn_take {l : List Int} {k : Nat} {s y : Int} (h : Inc l) (hB : ∀ b ∈ l.drop k, s < b) (hk : 0 < k) (hy : l[k - 1]? = some y) (h1 : ¬ s < y) (h2 : y ≠ s) : addN l s = l.take k ++ s :: l.drop k := by
  have h3 := addn_at (A := l.take k) (B := l.drop k) (s := s) (by rw [List.take_append_drop]; exact h) hB (fun a ha => by
    have hkl : k - 1 < l.length := by
      rcases Nat.lt_or_ge (k - 1) l.length with h | h
      · exact h
      · rw [List.getElem?_eq_none h] at hy; cases hy
    have h4 : (l.take k).getLast? = some y := by
      rw [List.getLast?_eq_getElem?, List.length_take, Nat.min_eq_left (by omega), List.getElem?_take, if_pos (by omega), hy]
    have ha2 : (l.take k).getLast? = some a := ha
    rw [h4] at ha2
    cases ha2
    omega)
  rw [List.take_append_drop] at h3
  exact h3
theorem addn_zero {l : List Int} {s : Int} (h : Inc l) (hB : ∀ b ∈ l, s < b) : addN l s = l.take 0 ++ s :: l.drop 0 := addn_at (A := []) (B := l) (s := s) h hB (fun a ha => by cases ha)
theorem dropn_less {l : List Int} {k : Nat} {s y : Int} (hB : ∀ b ∈ l.drop (k + 1), s < b) (hy : l[k]? = some y) (h : s < y) : ∀ b ∈ l.drop k, s < b := by
  intro b hb
  have hkl : k < l.length := by
    rcases Nat.lt_or_ge k l.length with h | h
    · exact h
    · rw [List.getElem?_eq_none h] at hy; cases hy
  rw [List.drop_eq_getElem_cons hkl] at hb
  rw [List.getElem?_eq_getElem hkl] at hy
  cases hy
  rcases List.mem_cons.1 hb with rfl | hb
  · exact h
  · exact hB b hb
/-- What number gives. -/
def NumRet (w : World) (v : Value) (L : List Int) (e : Ending) (w' : World) : Prop := ∃ v', e = .returned v' ∧ OwnInts w' 2 v' L ∧ (∀ k, v'.ownBlock = some k → v.ownBlock = some k ∨ w.heap.size ≤ k) ∧ Fr w w' Nil
theorem num_fin {w w7 : World} {v : Value} {l : List Int} {s : Int} {k n c7 : Nat} {a7 : Option Addr} (ho : w7.ownsRow 0 2 1 (.slice a7 n c7) n (((l.take k).map (Value.int .i64) ++ [.int .i64 s]) ++ (l.drop k).map (Value.int .i64))) (hn : n = l.length + 1) (hk : k ≤ l.length)
    (hL : addN l s = l.take k ++ s :: l.drop k) (hb : ∀ j, (Value.slice a7 n c7).ownBlock = some j → w.heap.size ≤ j) (hf : Fr w w7 Nil) : NumRet w v (addN l s) (.returned (.slice a7 n c7)) w7 := by
  refine ⟨_, rfl, ?_, fun j hj => .inr (hb j hj), hf⟩
  unfold OwnInts
  rw [hL, show (l.take k ++ s :: l.drop k).length = n by simp; omega, List.map_append, List.map_cons]
  rw [List.append_assoc] at ho
  exact ho
set_option maxRecDepth 100000 in
set_option maxHeartbeats 8000000 in
theorem rnum_any {l : List Int} {v : Value} (s : Int) (w : World) (h : OwnInts w 2 v l) (hs : Inc l) (hl : l.length ≤ 300000) :
    Calls Tryz.prog 69 #[v, .int .i64 s] w (NumRet w v (addN l s)) := by
  have ho0 := h
  have HO := Lib.hid ho0
  have HSO := Lib.hid hs
  have HON1 : Hid (∀ u ∈ [Value.int .i64 s], u.oneCell' = true) := fun u hu => by rw [List.mem_singleton] at hu; subst hu; rfl
  have HONE : Hid (∀ W : World, SlAt (W.alloc (.cells #[.int .i64 s] 2)) 1 (.slice (some ⟨W.heap.size, 0, none⟩) 1 1) 1 [.int .i64 s]) := fun W => one_new W s
  clear h hs
  rcases ho0.2 with ⟨rfl, hn⟩ | ⟨g, cap, cur, rfl, _, hg, hcap, _⟩
  · obtain rfl : l = [] := List.eq_nil_of_length_eq_zero hn
    clear ho0 hn
    have HT : Hid (∀ w', Fr w w' Nil → SlAt w' 1 (.slice none 0 0) 0 ((([] : List Int).take 0).map (Value.int .i64))) := fun w' _ => SlAt.nil w' 1
    have HD2 : Hid (∀ w', Fr w w' Nil → SlAt w' 1 (.slice none 0 0) 0 ((([] : List Int).drop 0).map (Value.int .i64))) := fun w' _ => SlAt.nil w' 1
    have HADD : Hid (addN [] s = ([] : List Int).take 0 ++ s :: ([] : List Int).drop 0) := Lib.hid rfl
    go_enter Tryz.func69, Tryz.ntmps69
    go_wp2_with fail
    go_loopw [5] (fun vk wr => vk = .int .i64 0 ∧ wr = w) (fun vk _ => (intOf vk).toNat)
    case atStart => exact ⟨by first | rfl | simp, by first | rfl | trivial⟩
    case round =>
      obtain ⟨rfl, hf2⟩ := hrel
      subst hf2
      obtain ⟨w, rfl⟩ : ∃ x : World, x = wr := ⟨_, rfl⟩
      have Hf2 : Hid (Fr w w Nil) := Fr.refl w Nil
      have HLB1 : Hid (0 + 0 ≤ 1000000) := by have h9 : 0 + 0 ≤ 1000000 := (by omega); exact h9
      have HLB2 : Hid (0 + 1 ≤ 1000000) := by have h9 : 0 + 1 ≤ 1000000 := (by omega); exact h9
      have HLB3 : Hid (0 + 1 + 0 ≤ 1000000) := by have h9 : 0 + 1 + 0 ≤ 1000000 := (by omega); exact h9
      go_wp2_with (at_builtin; refine wpList_app _ rfl _ _ _ rfl sl64 (.slice none 0 0) rfl (World.ownsRow_nil _ _ _ _) _ rfl (HT.out _ Hf2.out) (ints_ones _) HLB1.out ?_)
      intro a4 c4 w4 ho hg4 hat
      try rw [Nat.zero_add] at ho
      try rw [Nat.zero_add] at hat
      try rw [List.nil_append] at ho
      try rw [Nat.zero_add]
      have Hn4 := Lib.hid (new_of Hf2.out.size hat (fun j hj => by cases hj))
      have hf4 := Hf2.out.grown hg4 (fun j hj _ => by cases hj)
      have Ho4 := Lib.hid ho
      have Hf4 := Lib.hid hf4
      clear ho hg4 hat hf4
      go_wp2_with (at_builtin; refine wpList_app _ rfl _ _ _ rfl sl64 (.slice a4 0 c4) rfl (World.ownsRow.alloc Ho4.out _) _ rfl (HONE.out _) HON1.out HLB2.out ?_)
      intro a6 c6 w6 ho hg6 hat
      have Hn6 := Lib.hid (new_of (Nat.le_succ_of_le Hf4.out.size) hat Hn4.out)
      have hf6 : Fr w w6 Nil := (Hf4.out.alloc _).grown hg6 (fun j hj hlt => absurd hlt (by have := Hn4.out j hj; omega))
      have Ho6 := Lib.hid ho
      have Hf6 := Lib.hid hf6
      clear ho hg6 hat hf6
      go_wp2_with (at_builtin; refine wpList_app _ rfl _ _ _ rfl sl64 (.slice a6 (0 + 1) c6) rfl Ho6.out _ rfl (HD2.out _ Hf6.out) (ints_ones _) HLB3.out ?_)
      intro a7 c7 w7 ho hg7 hat
      have Hn7 := Lib.hid (new_of Hf6.out.size hat Hn6.out)
      have hf7 : Fr w w7 Nil := Hf6.out.grown hg7 (fun j hj hlt => absurd hlt (by have := Hn6.out j hj; omega))
      have HEND := Lib.hid (num_fin (v := (.slice none 0 0)) (by first | exact ho | (rw [List.append_assoc, List.map_take, List.map_drop]; exact ho)) (by first | omega | (simp; done) | (simp; omega)) (Nat.zero_le _) HADD.out Hn7.out hf7)
      clear ho hg7 hat hf7
      go_wp2_with fail
      go_ret
      exact HEND.out
  · clear hg ho0
    have hlc : l.length ≤ cap := hcap
    go_enter Tryz.func69, Tryz.ntmps69
    go_wp2_with fail
    go_loopw [5] (fun vk wr => ∃ k : Nat, vk = .int .i64 (k : Int) ∧ k ≤ l.length ∧ Hid (∀ b ∈ l.drop k, s < b) ∧ wr = w) (fun vk _ => (intOf vk).toNat)
    case atStart => exact ⟨l.length, by go_num, Nat.le_refl _, (fun b hb => by simp at hb), by first | rfl | trivial⟩
    case round =>
      obtain ⟨k, rfl, hkl, HDL, hwr⟩ := hrel
      subst hwr
      obtain ⟨w, rfl⟩ : ∃ x : World, x = wr := ⟨_, rfl⟩
      have hkc : (k : Int) ≤ (cap : Int) := by omega
      go_upto_region 2 with fail
      go_cut [19] from 9 to 19 (fun v19 wx => ∃ b : Bool, v19 = .bool b ∧ wx = w ∧ Hid (b = true → 0 < k ∧ ∀ x ∈ l.drop (k - 1), s < x) ∧ Hid (b = false → k = 0 ∨ ∃ y, l[k - 1]? = some y ∧ ¬ s < y))
      case first =>
        cases k with
        | zero =>
          go_wp2_with fail
          go_meet
          exact ⟨false, rfl, by first | rfl | trivial, (fun h => by cases h), fun _ => .inl (by first | rfl | trivial)⟩
        | succ k =>
          have hk0 : (0 : Int) < ((k + 1 : Nat) : Int) := by omega
          have hi1 : (k : Int) < (l.length : Int) := by omega
          have hi0 : (0 : Int) ≤ (k : Int) := by omega
          obtain ⟨y, hy⟩ : ∃ y, l[k]? = some y := ⟨_, List.getElem?_eq_getElem (by omega)⟩
          have p0 := HO.out.cell rfl k (by omega)
          rw [List.getD_eq_getElem?_getD, hy] at p0
          simp only [Option.getD_some] at p0
          have HY := Lib.hid hy
          clear hy
          go_wp2_with fail
          go_meet
          exact ⟨decide (s < y), rfl, by first | rfl | trivial, fun h => ⟨Nat.succ_pos _, dropn_less HDL.out HY.out (of_decide_eq_true h)⟩, fun h => .inr ⟨y, HY.out, Int.not_lt.1 (of_decide_eq_false h)⟩⟩
      case rest =>
        obtain ⟨b, rfl, hwc, HT1, HT0⟩ := hcut
        subst hwc
        obtain ⟨w, rfl⟩ : ∃ x : World, x = wc := ⟨_, rfl⟩
        cases b with
        | true =>
          obtain ⟨hk0, hdl⟩ := HT1.out rfl
          have HDL2 := Lib.hid hdl
          clear hdl
          go_wp2_with fail
          go_roundw
          case rel => exact ⟨k - 1, by go_num, by omega, HDL2, by first | rfl | trivial⟩
          case measure => simp [intOf]; omega
        | false =>
          go_upto_region 4 with fail
          go_cut [32] from 22 to 32 (fun v32 wx => ∃ b : Bool, v32 = .bool b ∧ wx = w ∧ Hid (b = true → addN l s = l) ∧ Hid (b = false → addN l s = l.take k ++ s :: l.drop k))
          case first =>
            cases k with
            | zero =>
              go_wp2_with fail
              go_meet
              exact ⟨false, rfl, by first | rfl | trivial, (fun h => by cases h), fun _ => addn_zero HSO.out (by simpa using HDL.out)⟩
            | succ k =>
              have hk0 : (0 : Int) < ((k + 1 : Nat) : Int) := by omega
              have hi1 : (k : Int) < (l.length : Int) := by omega
              have hi0 : (0 : Int) ≤ (k : Int) := by omega
              rcases HT0.out rfl with h | ⟨y, hy, hly⟩
              · omega
              · rw [Nat.add_sub_cancel] at hy
                have p0 := HO.out.cell rfl k (by omega)
                rw [List.getD_eq_getElem?_getD, hy] at p0
                simp only [Option.getD_some] at p0
                have HY := Lib.hid hy
                have HLY := Lib.hid hly
                clear hy hly
                cases hd : (y == s) with
                | false =>
                  have HADD : Hid (addN l s = l.take (k + 1) ++ s :: l.drop (k + 1)) := addn_take HSO.out HDL.out (Nat.succ_pos _) HY.out HLY.out (by rw [beq_eq_false_iff_ne] at hd; exact hd)
                  go_wp2_with fail
                  go_meet
                  exact ⟨false, rfl, by first | rfl | trivial, (fun h => by cases h), fun _ => HADD.out⟩
                | true =>
                  have HADD : Hid (addN l s = l) := addn_in HSO.out (by rw [beq_iff_eq] at hd; rw [← hd]; exact List.mem_of_getElem? HY.out)
                  go_wp2_with fail
                  go_meet
                  exact ⟨true, rfl, by first | rfl | trivial, fun _ => HADD.out, fun h => by cases h⟩
          case rest =>
            obtain ⟨b, rfl, hwc, HA1, HA0⟩ := hcut
            subst hwc
            obtain ⟨w, rfl⟩ : ∃ x : World, x = wc := ⟨_, rfl⟩
            have Hf2 : Hid (Fr w w Nil) := Fr.refl w Nil
            cases b with
            | true =>
              have HEND : Hid (NumRet w (.slice (some ⟨g, 0, none⟩) l.length cap) (addN l s) (.returned (.slice (some ⟨g, 0, none⟩) l.length cap)) w) := by
                refine ⟨_, rfl, ?_, fun j hj => .inl hj, Fr.refl w Nil⟩
                rw [HA1.out rfl]
                exact HO.out
              go_wp2_with fail
              go_ret
              exact HEND.out
            | false =>
              have HADD : Hid (addN l s = l.take k ++ s :: l.drop k) := HA0.out rfl
              have HT : Hid (∀ w', Fr w w' Nil → SlAt w' 1 (.slice (some ⟨g, 0, none⟩) k cap) k ((l.take k).map (Value.int .i64))) := fun w' hf => by
                have := ((SlAt.of_own HO.out).1.fr0 hf).take (k := k) (c' := cap) hkl (fun e => by cases e)
                rw [Nat.mul_one, ← List.map_take] at this
                exact this
              have HX : (cap = k ∧ Hid (∀ w', Fr w w' Nil → SlAt w' 1 (.slice (some ⟨g, 0, none⟩) 0 0) 0 ((l.drop k).map (Value.int .i64)))) ∨ (cap ≠ k ∧ Hid (∀ w', Fr w w' Nil → SlAt w' 1 (.slice (some ⟨g, k, none⟩) (l.length - k) (cap - k)) (l.length - k) ((l.drop k).map (Value.int .i64)))) := by
                by_cases hc1 : cap = k
                · refine .inl ⟨hc1, fun w' hf => ?_⟩
                  have := ((SlAt.of_own HO.out).1.fr0 hf).drop (k := k) hkl hlc
                  rw [Nat.mul_one, ← List.map_drop, if_pos hc1, show cap - k = 0 by omega, show l.length - k = 0 by omega] at this
                  exact this
                · refine .inr ⟨hc1, fun w' hf => ?_⟩
                  have := ((SlAt.of_own HO.out).1.fr0 hf).drop (k := k) hkl hlc
                  rw [Nat.mul_one, ← List.map_drop, if_neg hc1] at this
                  simp only [Option.map_some, Addr.add_lit, Nat.zero_add] at this
                  exact this
              clear HA1 HA0 HT1 HT0 HDL
              rcases HX with ⟨hc1, HD2⟩ | ⟨hc1, HD2⟩
              · have hxk : l.length = k := by omega
                subst hc1
                have HLB1 : Hid (0 + cap ≤ 1000000) := by have h9 : 0 + cap ≤ 1000000 := (by omega); exact h9
                have HLB2 : Hid (cap + 1 ≤ 1000000) := by have h9 : cap + 1 ≤ 1000000 := (by omega); exact h9
                have HLB3 : Hid (cap + 1 + 0 ≤ 1000000) := by have h9 : cap + 1 + 0 ≤ 1000000 := (by omega); exact h9
                go_wp2_with (at_builtin; refine wpList_app _ rfl _ _ _ rfl sl64 (.slice none 0 0) rfl (World.ownsRow_nil _ _ _ _) _ rfl (HT.out _ Hf2.out) (ints_ones _) HLB1.out ?_)
                intro a4 c4 w4 ho hg4 hat
                try rw [Nat.zero_add] at ho
                try rw [Nat.zero_add] at hat
                try rw [List.nil_append] at ho
                try rw [Nat.zero_add]
                have Hn4 := Lib.hid (new_of Hf2.out.size hat (fun j hj => by cases hj))
                have hf4 := Hf2.out.grown hg4 (fun j hj _ => by cases hj)
                have Ho4 := Lib.hid ho
                have Hf4 := Lib.hid hf4
                clear ho hg4 hat hf4
                go_wp2_with (at_builtin; refine wpList_app _ rfl _ _ _ rfl sl64 (.slice a4 cap c4) rfl (World.ownsRow.alloc Ho4.out _) _ rfl (HONE.out _) HON1.out HLB2.out ?_)
                intro a6 c6 w6 ho hg6 hat
                have Hn6 := Lib.hid (new_of (Nat.le_succ_of_le Hf4.out.size) hat Hn4.out)
                have hf6 : Fr w w6 Nil := (Hf4.out.alloc _).grown hg6 (fun j hj hlt => absurd hlt (by have := Hn4.out j hj; omega))
                have Ho6 := Lib.hid ho
                have Hf6 := Lib.hid hf6
                clear ho hg6 hat hf6
                go_wp2_with (at_builtin; refine wpList_app _ rfl _ _ _ rfl sl64 (.slice a6 (cap + 1) c6) rfl Ho6.out _ rfl (HD2.out _ Hf6.out) (ints_ones _) HLB3.out ?_)
                intro a7 c7 w7 ho hg7 hat
                have Hn7 := Lib.hid (new_of Hf6.out.size hat Hn6.out)
                have hf7 : Fr w w7 Nil := Hf6.out.grown hg7 (fun j hj hlt => absurd hlt (by have := Hn6.out j hj; omega))
                have HEND := Lib.hid (num_fin (v := (.slice (some ⟨g, 0, none⟩) l.length cap)) (by first | exact ho | (rw [List.append_assoc, List.map_take, List.map_drop]; exact ho)) (by first | omega | (simp; done) | (simp; omega)) hkl HADD.out Hn7.out hf7)
                clear ho hg7 hat hf7
                go_wp2_with fail
                go_ret
                exact HEND.out
              · skip
                have HLB1 : Hid (0 + k ≤ 1000000) := by have h9 : 0 + k ≤ 1000000 := (by omega); exact h9
                have HLB2 : Hid (k + 1 ≤ 1000000) := by have h9 : k + 1 ≤ 1000000 := (by omega); exact h9
                have HLB3 : Hid (k + 1 + (l.length - k) ≤ 1000000) := by have h9 : k + 1 + (l.length - k) ≤ 1000000 := (by omega); exact h9
                go_wp2_with (at_builtin; refine wpList_app _ rfl _ _ _ rfl sl64 (.slice none 0 0) rfl (World.ownsRow_nil _ _ _ _) _ rfl (HT.out _ Hf2.out) (ints_ones _) HLB1.out ?_)
                intro a4 c4 w4 ho hg4 hat
                try rw [Nat.zero_add] at ho
                try rw [Nat.zero_add] at hat
                try rw [List.nil_append] at ho
                try rw [Nat.zero_add]
                have Hn4 := Lib.hid (new_of Hf2.out.size hat (fun j hj => by cases hj))
                have hf4 := Hf2.out.grown hg4 (fun j hj _ => by cases hj)
                have Ho4 := Lib.hid ho
                have Hf4 := Lib.hid hf4
                clear ho hg4 hat hf4
                go_wp2_with (at_builtin; refine wpList_app _ rfl _ _ _ rfl sl64 (.slice a4 k c4) rfl (World.ownsRow.alloc Ho4.out _) _ rfl (HONE.out _) HON1.out HLB2.out ?_)
                intro a6 c6 w6 ho hg6 hat
                have Hn6 := Lib.hid (new_of (Nat.le_succ_of_le Hf4.out.size) hat Hn4.out)
                have hf6 : Fr w w6 Nil := (Hf4.out.alloc _).grown hg6 (fun j hj hlt => absurd hlt (by have := Hn4.out j hj; omega))
                have Ho6 := Lib.hid ho
                have Hf6 := Lib.hid hf6
                clear ho hg6 hat hf6
                go_wp2_with (at_builtin; refine wpList_app _ rfl _ _ _ rfl sl64 (.slice a6 (k + 1) c6) rfl Ho6.out _ rfl (HD2.out _ Hf6.out) (ints_ones _) HLB3.out ?_)
                intro a7 c7 w7 ho hg7 hat
                have Hn7 := Lib.hid (new_of Hf6.out.size hat Hn6.out)
                have hf7 : Fr w w7 Nil := Hf6.out.grown hg7 (fun j hj hlt => absurd hlt (by have := Hn6.out j hj; omega))
                have HEND := Lib.hid (num_fin (v := (.slice (some ⟨g, 0, none⟩) l.length cap)) (by first | exact ho | (rw [List.append_assoc, List.map_take, List.map_drop]; exact ho)) (by first | omega | (simp; done) | (simp; omega)) hkl HADD.out Hn7.out hf7)
                clear ho hg7 hat hf7
                go_wp2_with fail
                go_ret
                exact HEND.out
end Go.Proofs.YtokeciekncincabGreat
namespace Go.Proofs.YtokeciekncincabGreat
open Go

def addsN (r l : List Int) : List Int := l.foldl addN r
theorem addsN_snoc (r l : List Int) (x : Int) : addsN r (l ++ [x]) = addN (addsN r l) x := by
  unfold addsN
  rw [List.foldl_append]
  rfl
theorem addsN_is (l : List Int) : ∀ r : List Int, Inc r → Inc (addsN r l) ∧ ∀ x, x ∈ addsN r l ↔ x ∈ r ∨ x ∈ l := by
  induction l with
  | nil => intro r hr; exact ⟨hr, fun x => by simp [addsN]⟩
  | cons a l ih =>
    intro r hr
    obtain ⟨h1, h2⟩ := ih _ (addN_inc hr a)
    refine ⟨h1, fun x => ?_⟩
    show x ∈ addsN (addN r a) l ↔ _
    rw [h2, addN_mem, List.mem_cons]
    constructor
    · rintro ((h | h) | h)
      · exact .inl h
      · exact .inr (.inl h)
      · exact .inr (.inr h)
    · rintro (h | h | h)
      · exact .inl (.inl h)
      · exact .inl (.inr h)
      · exact .inr h
theorem addsN_len (l : List Int) : ∀ r : List Int, (addsN r l).length ≤ r.length + l.length := by
  induction l with
  | nil => intro r; exact Nat.le_refl _
  | cons a l ih =>
    intro r
    have h1 := ih (addN r a)
    have h2 := addN_len r a
    show (addsN (addN r a) l).length ≤ _
    rw [List.length_cons]
    omega
theorem inc_nil : Inc [] := List.Pairwise.nil
/-! ### Holders -/
def rkeys (H : List LkE) (s : Spot) : List Int := addsN [] ((H.filter fun e => e.s == s).map LkE.who)
def rholdersL (H : List LkE) (s : Spot) : List LkE := (rkeys H s).map fun who => ⟨s, who, heldL H who s⟩
theorem rkeys_take {H : List LkE} {s : Spot} {i : Nat} {e : LkE} (h : H[i]? = some e) : rkeys (H.take (i + 1)) s = if e.s == s then addN (rkeys (H.take i) s) e.who else rkeys (H.take i) s := by
  unfold rkeys
  rw [take_filter h, List.map_append]
  cases e.s == s with
  | true => exact addsN_snoc _ _ _
  | false => rw [if_neg (by decide), if_neg (by decide), List.map_nil, List.append_nil]
theorem rkeys_inc (H : List LkE) (s : Spot) : Inc (rkeys H s) := (addsN_is _ _ inc_nil).1
theorem rkeys_len (H : List LkE) (s : Spot) : (rkeys H s).length ≤ H.length := by
  unfold rkeys
  have h1 := addsN_len ((H.filter fun e => e.s == s).map LkE.who) []
  have h2 := List.length_filter_le (fun e => e.s == s) H
  rw [List.length_map, List.length_nil] at h1
  omega
theorem rkeys_take_len (H : List LkE) (s : Spot) (i : Nat) : (rkeys (H.take i) s).length ≤ H.length := by
  have h1 := rkeys_len (H.take i) s
  rw [List.length_take] at h1
  omega
/-! ### For -/
def barP (s : Spot) (who m : Int) (e : LkE) : Bool := e.s == s && e.who != who && !besM m e.m
def rbar (H : List LkE) (s : Spot) (who m : Int) : List Int := addsN [] ((H.filter (barP s who m)).map LkE.who)
theorem rbar_take {H : List LkE} {s : Spot} {who m : Int} {i : Nat} {e : LkE} (h : H[i]? = some e) : rbar (H.take (i + 1)) s who m = if barP s who m e then addN (rbar (H.take i) s who m) e.who else rbar (H.take i) s who m := by
  unfold rbar
  rw [take_filter h, List.map_append]
  cases barP s who m e with
  | true => exact addsN_snoc _ _ _
  | false => rw [if_neg (by decide), if_neg (by decide), List.map_nil, List.append_nil]
theorem rbar_inc (H : List LkE) (s : Spot) (who m : Int) : Inc (rbar H s who m) := (addsN_is _ _ inc_nil).1
theorem rbar_len (H : List LkE) (s : Spot) (who m : Int) : (rbar H s who m).length ≤ H.length := by
  unfold rbar
  have h1 := addsN_len ((H.filter (barP s who m)).map LkE.who) []
  have h2 := List.length_filter_le (barP s who m) H
  rw [List.length_map, List.length_nil] at h1
  omega
theorem rbar_take_len (H : List LkE) (s : Spot) (who m : Int) (i : Nat) : (rbar (H.take i) s who m).length ≤ H.length := by
  have h1 := rbar_len (H.take i) s who m
  rw [List.length_take] at h1
  omega
end Go.Proofs.YtokeciekncincabGreat
namespace Go.Proofs.YtokeciekncincabGreat
open Go Go.RowKit Go.Maps

theorem NewE.snoc {B : Nat} {w' : World} {ga : Option Addr} {n gc : Nat} {L : List LkE} {e : LkE} (hl : L.length = n) (ho : w'.ownsRow 0 96 5 (.slice ga (n + 1) gc) (n + 1) (L.flatMap ent5 ++ ent5 e)) (hb : ∀ k, (Value.slice ga (n + 1) gc).ownBlock = some k → B ≤ k) : NewE B w' (.slice ga (n + 1) gc) (L ++ [e]) := ⟨OwnE.snoc hl ho, hb⟩
set_option maxRecDepth 100000 in
set_option maxHeartbeats 8000000 in
theorem rholders_any {mb : Nat} {D : LkS} {S : Nat → Prop} (s : Spot) (w : World) (h : DkA w mb D S) (hl : D.H.length ≤ 100000) :
    Calls Tryz.prog 35 #[mkp mb, spV s] w fun e w' => ∃ v', e = .returned v' ∧ NewE w.heap.size w' v' (rholdersL D.H s) ∧ Fr w w' Nil := by
  obtain ⟨w0, hw0⟩ : ∃ w0, w.alloc (.cells #[.int .i64 s.1, .bool s.2.1, .int .i64 s.2.2] 30) = w0 := ⟨_, rfl⟩
  have hf0 : Fr w w0 Nil := by rw [← hw0]; exact (Fr.refl w Nil).alloc _
  have hb0 : Bk w0 w.heap.size 30 [.int .i64 s.1, .bool s.2.1, .int .i64 s.2.2] := by rw [← hw0]; exact Bk.new w _ _
  have HA0 := Lib.hid (h.fr0 hf0)
  obtain ⟨hv, wv, hg⟩ := h.fr0 hf0
  obtain ⟨ha, hc, rfl⟩ := hg.holds.shape
  have HF0 := Lib.hid hf0
  have HB0 := Lib.hid hb0
  have HO := Lib.hid hg.holds
  have HRT := Lib.hid hg.root
  have cH := fun (who : Int) (w' : World) (hf : Fr w0 w' Nil) => rheld_any who s w' (HA0.out.fr0 hf) (by omega)
  have HL := Lib.hid hl
  obtain ⟨fe, hfe⟩ : ∃ fe : Int → LkE, (fun who => (⟨s, who, heldL D.H who s⟩ : LkE)) = fe := ⟨_, rfl⟩
  have hR : rholdersL D.H s = (rkeys D.H s).map fe := by unfold rholdersL; rw [← hfe]
  rw [hR]
  have HFE := Lib.hid hfe
  generalize D.H = H at *
  clear hg hf0 hb0 hR h hfe
  go_enter Tryz.func35, Tryz.ntmps35
  go_wp2_with fail
  go_loopw [5, 6] (fun vo vi wr => ∃ i : Nat, vi = .int .i64 (i : Int) ∧ i ≤ H.length ∧ Hid (NewN w0.heap.size wr vo (rkeys (H.take i) s)) ∧ Hid (Fr w0 wr Nil)) (fun _ vi _ => H.length - (intOf vi).toNat)
  case atStart => exact ⟨0, by go_num, by omega, NewN.nil _ _, Fr.refl _ _⟩
  case round =>
    obtain ⟨i, rfl, hi, HN, HF⟩ := hrel
    obtain ⟨wo, rfl⟩ : ∃ wo : World, wo = wr := ⟨_, rfl⟩
    have m1 : wo.cell? ⟨mb, 1, none⟩ = some (.slice ha H.length hc) := (HRT.out.fr HF.out fun h => h).cell 1
    by_cases hlt : i < H.length
    · have hil : (i : Int) < (H.length : Int) := by omega
      obtain ⟨b, cap', hvv, _, hcl⟩ := HO.out.form (by omega)
      simp only [Value.slice.injEq, true_and] at hvv
      obtain ⟨rfl, rfl⟩ := hvv
      obtain ⟨e, he⟩ : ∃ e, H[i]? = some e := ⟨_, List.getElem?_eq_getElem hlt⟩
      obtain ⟨p0, p1, p2, p3, p4⟩ := hcl i e he
      replace p0 := HF.out.cell p0 (fun h => h)
      replace p1 := HF.out.cell p1 (fun h => h)
      replace p2 := HF.out.cell p2 (fun h => h)
      replace p3 := HF.out.cell p3 (fun h => h)
      have hbo := HB0.out.fr HF.out (fun h => h)
      have r0 : wo.cell? ⟨w.heap.size, 0, none⟩ = some (.int .i64 s.1) := hbo.cell 0
      have r1 : wo.cell? ⟨w.heap.size, 1, none⟩ = some (.bool s.2.1) := hbo.cell 1
      have r2 : wo.cell? ⟨w.heap.size, 2, none⟩ = some (.int .i64 s.2.2) := hbo.cell 2
      have HTK1 : Hid (decide (e.s = s) = true → rkeys (H.take (i + 1)) s = addN (rkeys (H.take i) s) e.who) := fun h => by rw [rkeys_take he, beq_spot, if_pos h]
      have HTK0 : Hid (decide (e.s = s) = false → rkeys (H.take (i + 1)) s = rkeys (H.take i) s) := fun h => by rw [rkeys_take he, beq_spot, if_neg (by rw [h]; decide)]
      have heq := Tryz.eqSp e.s s
      have cN : ∀ w', Fr wo w' Nil → _ := fun w' hf => rnum_any e.who w' (HN.out.fr0 hf).1 (rkeys_inc _ _) (by have := rkeys_take_len H s i; omega)
      generalize hd : decide (e.s = s) = dd at *
      obtain ⟨⟨e1, e2, e3⟩, ew, em⟩ := e
      obtain ⟨s1, s2, s3⟩ := s
      dsimp only at p0 p1 p2 p3 r0 r1 r2 cN
      clear hcl he hbo p4 hd
      go_wp2_with fail
      go_quiet (fail)
      rename_i nq
      have HFq := Lib.hid (HF.out.drewN nq)
      have hfq : Fr wo (wo.drewN nq) Nil := (Fr.refl wo Nil).drewN nq
      have HNq := Lib.hid (HN.out.fr0 hfq)
      replace m1 := hfq.cell m1 (fun h => h)
      replace p3 := hfq.cell p3 (fun h => h)
      have cNq := cN _ hfq
      clear hfq p0 p1 p2 r0 r1 r2 cN
      cases dd with
      | false =>
        go_wp2_with fail
        go_roundw
        case rel =>
          refine ⟨i + 1, by go_num, by omega, ?_, HFq⟩
          show NewN _ _ _ _
          rw [HTK0.out (by first | rfl | trivial)]; exact HNq.out
        case measure => simp [intOf]; omega
      | true =>
        go_wp2_with fail
        refine cNq.mono ?_
        rintro e w2 ⟨v', rfl, ho, hb, hf⟩
        have HN2 : Hid (NewN w0.heap.size w2 v' (rkeys (H.take (i + 1)) (s1, s2, s3))) := by
          have h9 : NewN w0.heap.size w2 v' (rkeys (H.take (i + 1)) (s1, s2, s3)) := by
            rw [HTK1.out (by first | rfl | trivial)]
            refine ⟨ho, fun k hk => ?_⟩
            rcases hb k hk with h | h
            · exact HN.out.2 k h
            · have := HFq.out.size; omega
          exact h9
        have HF2 := Lib.hid (HFq.out.trans0 hf)
        clear ho hb hf cNq
        go_wp2_with fail
        go_roundw
        case rel => exact ⟨i + 1, by go_num, by omega, HN2, HF2⟩
        case measure => simp [intOf]; omega
    · obtain rfl : i = H.length := by omega
      have HN2 := HN.out
      rw [List.take_length] at HN2
      obtain ⟨ks, hks⟩ : ∃ ks, rkeys H s = ks := ⟨_, rfl⟩
      have hkl : ks.length ≤ 100000 := by rw [← hks]; have := rkeys_len H s; omega
      have HKS := Lib.hid hks
      rw [hks] at HN2
      obtain ⟨a1, c1, rfl⟩ := HN2.1.shape
      have HI := Lib.hid HN2.1
      have HI2 := Lib.hid HN2.2
      have HKL := Lib.hid hkl
      obtain ⟨wB, rfl⟩ : ∃ wB : World, wB = wo := ⟨_, rfl⟩
      have HFB := HF
      clear HN HN2 hks hkl HF
      go_wp2_with fail
      go_loopw [7, 8] (fun vo vi wr => ∃ (i : Nat) (a : Option Addr) (c : Nat), vi = .int .i64 (i : Int) ∧ i ≤ ks.length ∧ vo = .slice a i c ∧ Hid (NewE wB.heap.size wr (.slice a i c) ((ks.take i).map fe)) ∧ Hid (Fr wB wr Nil)) (fun _ vi _ => ks.length - (intOf vi).toNat)
      case atStart => exact ⟨0, none, 0, rfl, by omega, rfl, NewE.nil _ _, Fr.refl _ _⟩
      case round =>
        obtain ⟨i, a, c, rfl, hi, rfl, HN, HFR⟩ := hrel
        obtain ⟨wo, rfl⟩ : ∃ wo : World, wo = wr := ⟨_, rfl⟩
        have hkl : ks.length ≤ 100000 := HKL.out
        have HKR := Lib.hid (HFB.out.trans0 HFR.out)
        by_cases hlt : i < ks.length
        · have hil : (i : Int) < (ks.length : Int) := by omega
          obtain ⟨b1, cap1, hvv, _⟩ := HI.out.form (by omega)
          simp only [Value.slice.injEq, true_and] at hvv
          obtain ⟨rfl, rfl⟩ := hvv
          obtain ⟨x, hx⟩ : ∃ x, ks[i]? = some x := ⟨_, List.getElem?_eq_getElem hlt⟩
          have hc := HFR.out.cell (HI.out.cell rfl i hlt) (fun h => h)
          rw [List.getD_eq_getElem?_getD, hx] at hc
          simp only [Option.getD_some] at hc
          have hbo := HB0.out.fr HKR.out (fun h => h)
          have hnb : ∀ k, k < wB.heap.size → (Value.slice a i c).ownBlock ≠ some k := fun k hk e => by have := HN.out.2 k e; omega
          have hltb : ∀ k, k < w0.heap.size → (Value.slice a i c).ownBlock ≠ some k := fun k hk => hnb k (Nat.lt_of_lt_of_le hk HFB.out.size)
          have HNB := Lib.hid hltb
          have k2 : ∀ w', KeptR (fun k => (Value.slice a i c).ownBlock = some k) wo w' → w'.cell? ⟨w.heap.size, 0, none⟩ = some (.int .i64 s.1) := KeptR.cell (hbo.cell 0) (hltb _ HB0.out.lt)
          have k3 : ∀ w', KeptR (fun k => (Value.slice a i c).ownBlock = some k) wo w' → w'.cell? ⟨w.heap.size, 1, none⟩ = some (.bool s.2.1) := KeptR.cell (hbo.cell 1) (hltb _ HB0.out.lt)
          have k4 : ∀ w', KeptR (fun k => (Value.slice a i c).ownBlock = some k) wo w' → w'.cell? ⟨w.heap.size, 2, none⟩ = some (.int .i64 s.2.2) := KeptR.cell (hbo.cell 2) (hltb _ HB0.out.lt)
          have k5 : ∀ w', KeptR (fun k => (Value.slice a i c).ownBlock = some k) wo w' → w'.cell? ⟨b1, i, none⟩ = some (.int .i64 x) := KeptR.cell (by simpa using hc) (hnb _ (World.ownsRow.lt HI.out _ rfl).2)
          have HX : Hid (fe x = ⟨s, x, heldL H x s⟩) := Lib.hid (by rw [← HFE.out])
          have cHx := cH x
          have HTK : Hid (ks.take (i + 1) = ks.take i ++ [x]) := by
            show _ = _
            rw [List.take_add_one, hx]; rfl
          have HLB : Hid (i + 1 ≤ 1000000) := by have h9 : i + 1 ≤ 1000000 := (by omega); exact h9
          have HLI : Hid (((ks.take i).map fe).length = i) := by
            show _ = _
            rw [List.length_map, List.length_take]; omega
          have HON1 : Hid (∀ u ∈ ent5 ⟨s, x, heldL H x s⟩, u.oneCell' = true) := ent_one _
          generalize hhm : heldL H x s = hm at *
          obtain ⟨s1, s2, s3⟩ := s
          dsimp only at k2 k3 k4 HX HON1
          clear hx hbo hnb hltb hc hhm
          go_wp2_with fail
          refine wp_region_sink 16 (KeptR (fun k => (Value.slice a i c).ownBlock = some k) wo) (by kernel_rfl) ?_
          have hSa : KeptR (fun k => (Value.slice a i c).ownBlock = some k) wo wo.drew := (KeptN.start wo).weak _
          refine tk 0 hSa ?_
          try simp only [Act.put, sA, sB, sC]
          refine tk 1 hSa ?_ (hy := by intro _ w; have ck2 := k2 _ w; have ck3 := k3 _ w; have ck4 := k4 _ w; go_simp <;> with_reducible rfl)
          try simp only [Act.put, sA, sB, sC]
          refine tk 2 hSa ?_
          refine tk 3 hSa ?_
          refine tk 4 hSa ?_
          try simp only [Act.put, sA, sB, sC]
          refine tk 5 hSa ?_ (hy := by intro _ w; have ck5 := k5 _ w; go_simp <;> with_reducible rfl)
          try simp only [Act.put, sA, sB, sC]
          refine tk 6 hSa ?_
          refine tk 7 hSa ?_
          refine tk 8 hSa ?_
          refine tk 9 hSa ?_
          try simp only [Act.put, sA, sB, sC]
          refine tk 10 hSa ?_ (hy := by intro _ w; have ck5 := k5 _ w; go_simp <;> with_reducible rfl)
          try simp only [Act.put, sA, sB, sC]
          refine tk 11 hSa ?_ (hy := by intro _ w; have ck2 := k2 _ w; have ck3 := k3 _ w; have ck4 := k4 _ w; go_simp <;> with_reducible rfl)
          try simp only [Act.put, sA, sB, sC]
          refine on1 12 fun K hK => ?_
          go_simp
          refine (cHx _ (HKR.out.trans0 (KeptN.start wo))).mono ?_
          rintro e w1 ⟨rfl, hf1⟩
          have hfo : Fr wo w1 Nil := Fr.trans0 (KeptN.start wo) hf1
          have hSb : KeptR (fun k => (Value.slice a i c).ownBlock = some k) wo w1 := hfo.of_nil
          refine hK.out _ _ hSb ?_
          clear hK K
          try simp only [Act.put, sA, sB, sC]
          refine tk 13 hSb ?_
          try simp only [Act.put, sA, sB, sC]
          refine on1 14 fun K hK => ?_
          go_simp
          obtain ⟨wA, hwA⟩ : ∃ z, w1.alloc (.cells #[.int .i64 s1, .bool s2, .int .i64 s3, .int .i64 x, .int .u8 hm] 96) = z := ⟨_, rfl⟩
          try rw [hwA]
          have hfwA : Fr wo wA Nil := by rw [← hwA]; exact hfo.alloc _
          have hsl : SlAt wA 5 (.slice (some ⟨w1.heap.size, 0, none⟩) 1 1) 1 (ent5 ⟨(s1, s2, s3), x, hm⟩) := by rw [← hwA]; exact ent_new w1 ⟨(s1, s2, s3), x, hm⟩
          have hSc : KeptR (fun k => (Value.slice a i c).ownBlock = some k) wo wA := hfwA.of_nil
          refine hK.out _ _ hSc ?_
          clear hK K
          try simp only [Act.put, sA, sB, sC]
          have hown := HN.out.row HLI.out hfwA
          refine on1 15 fun K hK => ?_
          refine wp_app _ _ _ 60 rfl entT (.slice a i c) rfl hown (.slice (some ⟨w1.heap.size, 0, none⟩) 1 1) rfl hsl HON1.out HLB.out ?_
          intro ga gc W4 ho4 hg4 hb4
          have hSd : KeptR (fun k => (Value.slice a i c).ownBlock = some k) wo W4 := Fr.grown hSc hg4 fun k hk _ => hk
          have hfresh : ∀ k, (Value.slice ga (i + 1) gc).ownBlock = some k → wB.heap.size ≤ k := fun k hk => by
            rcases hb4 with h | h
            · exact HN.out.2 k (by rw [← h]; exact hk)
            · rw [h] at hk
              have hk2 := Option.some.inj hk
              have h1 := hfwA.size
              have h2 := HFR.out.size
              omega
          have hv4 : NewE wB.heap.size W4 (.slice ga (i + 1) gc) ((ks.take (i + 1)).map fe) := by
            rw [HTK.out, List.map_append, List.map_cons, List.map_nil, HX.out]
            exact NewE.snoc HLI.out ho4 hfresh
          refine hK.out _ _ hSd ?_
          clear hK K
          try simp only [Act.put, sA, sB, sC]
          refine wpAnyS_last (i := 16) rfl (by kernel_rfl) (by decide) (by kernel_rfl) (by rfl) fun K hK => ?_
          go_simp
          refine hK.out _ _ ?_
          clear hK K
          have HO4 := Lib.hid hv4
          have HFR4 : Hid (Fr wB W4 Nil) := HFR.out.trans hSd fun k hk h => by have := HN.out.2 k h; omega
          clear ho4 hg4 hb4 hv4 hfresh hSa hSb hSc hSd hown hsl hfwA hwA hfo hf1 k2 k3 k4 k5
          go_wp2_with fail
          go_roundw
          case rel => exact ⟨i + 1, ga, gc, by go_num, by omega, rfl, HO4, HFR4⟩
          case measure => simp [intOf]; omega
        · obtain rfl : i = ks.length := by omega
          have HO5 := HN.out
          rw [List.take_length] at HO5
          have HEND : Hid (NewE w.heap.size wo (.slice a ks.length c) ((rkeys H s).map fe) ∧ Fr w wo Nil) := ⟨by rw [HKS.out]; exact ⟨HO5.1, fun k hk => by have h1 := HO5.2 k hk; have h2 := HFB.out.size; have h3 := HF0.out.size; omega⟩, HF0.out.trans0 HKR.out⟩
          go_wp2_with fail
          go_ret
          exact ⟨_, rfl, HEND.out⟩
end Go.Proofs.YtokeciekncincabGreat
