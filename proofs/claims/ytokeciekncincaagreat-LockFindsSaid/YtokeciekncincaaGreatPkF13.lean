/-
  What the maps of a table of locks answer, and deletes in them, as equations of runs.
  No condition.
  Walks of New, Held, Queue: what is told of a spot.
  No condition but sizes.
  Walk of Used: how many entries there are.
  No condition but sizes.
  Walk of Locks.Queue.
  No condition but sizes.
-/
import Derived.Test.YtokeciekncincaaGreatPkF12
import Derived.Maps.OwnSet
namespace Go.Proofs.YtokeciekncincaaGreat
open Go Go.RowKit Go.Maps

abbrev sp3 (s : Spot) : List Value := [.int .i64 s.1, .bool s.2.1, .int .i64 s.2.2]
theorem Tryz.zeroSpot (w : World) : (zeroValue 30).run Tryz.prog w = .ok (spV (0, false, 0)) w := by kernel_rfl
theorem Tryz.zeroXp (w : World) : (zeroValue 66).run Tryz.prog w = .ok (.pointer none) w := by kernel_rfl
theorem Tryz.zeroMode (w : World) : (zeroValue 31).run Tryz.prog w = .ok (modV 0) w := by kernel_rfl
def LookAt (w : World) (sb : Nat) (s : Spot) (v : Value) : Prop := (Instr.lookup 50 (.map (some sb)) (spV s) false).run Tryz.prog w = .ok v w
set_option maxRecDepth 100000 in
/-- 'l.spots[s]': there, or nil. -/
theorem look_spot {w : World} {sb : Nat} {G : List (Spot × GX)} (h : MapAt Tryz.prog 30 skey GX.ptr w sb G) {s : Spot} (hs : SWf s) :
    (∃ g, (s, g) ∈ G ∧ LookAt w sb s g.ptr) ∨ ((∀ p ∈ G, p.1 ≠ s) ∧ LookAt w sb s (.pointer none)) := by
  obtain ⟨D, h1, h2⟩ := h
  obtain ⟨v, ps, hrun, hv⟩ := h1.lookup Tryz.keySpot Tryz.underlying50 (Tryz.zeroXp w) (zd := .held (.pointer none)) (zp := []) rfl (keySpot hs)
  have hv2 := heldR_inv hv
  by_cases hc : s ∈ G.map Prod.fst
  · obtain ⟨p, hp, rfl⟩ := List.mem_map.1 hc
    rw [h2.at spotKey (x := p.1) (v := p.2) hp] at hv2
    injection hv2 with hv2
    exact .inl ⟨p.2, hp, by unfold LookAt; rw [hrun, ← hv2]⟩
  · have hcf : @List.contains Spot instBEqOfDecidableEq (G.map Prod.fst) s = false := by
      cases hh : @List.contains Spot instBEqOfDecidableEq (G.map Prod.fst) s with
      | false => rfl
      | true =>
        simp only [List.contains_eq_mem, decide_eq_true_eq] at hh
        exact absurd hh hc
    rw [h2.at_none spotKey hcf] at hv2
    injection hv2 with hv2
    exact .inr ⟨fun p hp e => hc (List.mem_map.2 ⟨p, hp, e⟩), by unfold LookAt; rw [hrun, ← hv2]⟩
/-- .. where it is known to be there. -/
theorem look_spot_in {w : World} {sb : Nat} {G : List (Spot × GX)} (h : MapAt Tryz.prog 30 skey GX.ptr w sb G) {s : Spot} (hs : SWf s) {g : GX} (hg : (s, g) ∈ G) : LookAt w sb s g.ptr := by
  rcases look_spot h hs with ⟨g', hg', hl⟩ | ⟨hn, _⟩
  · have h1 := getV_mem (z := g) h.nodup hg
    have h2 := getV_mem (z := g) h.nodup hg'
    rw [h1] at h2
    rw [h2]; exact hl
  · exact absurd rfl (hn _ hg)
set_option maxRecDepth 100000 in
/-- 's, ok := l.waits[who]'. -/
theorem look_wait {w : World} {wb : Nat} {V : List (Int × Spot)} (h : MapAt Tryz.prog 2 ikey spV w wb V) {who : Int} (hw : (Lit.int .i64 who).wf = true) :
    (Instr.lookup 51 (.map (some wb)) (.int .i64 who) true).run Tryz.prog w = .ok (.tuple #[spV (getV V who (0, false, 0)), .bool ((V.map Prod.fst).contains who)]) w := by
  obtain ⟨D, h1, h2⟩ := h
  obtain ⟨v, ps, hrun, hv⟩ := h1.look_ok Tryz.keyI64 Tryz.underlying51 (Tryz.zeroSpot w) (zd := .held (spV (0, false, 0))) (zp := []) rfl (keyW hw)
  have hv2 := heldR_inv hv
  rw [h2.at_getV intKey] at hv2
  injection hv2 with hv2
  rw [hrun, ← hv2, h2.has intKey]
set_option maxRecDepth 100000 in
/-- 'x.holds[who]'. -/
theorem look_held {w : World} {hb : Nat} {M : List (Int × Int)} (h : MapAt Tryz.prog 2 ikey modV w hb M) {who : Int} (hw : (Lit.int .i64 who).wf = true) :
    (Instr.lookup 70 (.map (some hb)) (.int .i64 who) false).run Tryz.prog w = .ok (.int .u8 (getV M who 0)) w := by
  obtain ⟨D, h1, h2⟩ := h
  obtain ⟨v, ps, hrun, hv⟩ := h1.lookup Tryz.keyI64 Tryz.underlying70 (Tryz.zeroMode w) (zd := .held (modV 0)) (zp := []) rfl (keyW hw)
  have hv2 := heldR_inv hv
  rw [h2.at_getV intKey] at hv2
  injection hv2 with hv2
  rw [hrun, ← hv2]
set_option maxRecDepth 100000 in
theorem look_held_ok {w : World} {hb : Nat} {M : List (Int × Int)} (h : MapAt Tryz.prog 2 ikey modV w hb M) {who : Int} (hw : (Lit.int .i64 who).wf = true) :
    (Instr.lookup 70 (.map (some hb)) (.int .i64 who) true).run Tryz.prog w = .ok (.tuple #[.int .u8 (getV M who 0), .bool ((M.map Prod.fst).contains who)]) w := by
  obtain ⟨D, h1, h2⟩ := h
  obtain ⟨v, ps, hrun, hv⟩ := h1.look_ok Tryz.keyI64 Tryz.underlying70 (Tryz.zeroMode w) (zd := .held (modV 0)) (zp := []) rfl (keyW hw)
  have hv2 := heldR_inv hv
  rw [h2.at_getV intKey] at hv2
  injection hv2 with hv2
  rw [hrun, ← hv2, h2.has intKey]
theorem getV_holds (H : List LkE) (who : Int) (s : Spot) : getV (holdsOf H s) who 0 = heldL H who s := by
  unfold getV holdsOf prs heldL
  rw [List.find?_map]
  induction H with
  | nil => rfl
  | cons e H ih =>
    rw [List.filter_cons, List.find?_cons]
    by_cases hs : e.s = s
    · by_cases hw : e.who = who
      · have h1 : (e.s == s) = true := by rw [beq_iff_eq]; exact hs
        have h2 : (e.who == who && e.s == s) = true := by rw [Bool.and_eq_true, beq_iff_eq, beq_iff_eq]; exact ⟨hw, hs⟩
        rw [if_pos h1, h2]
        have h3 : ((fun p : Int × Int => decide (p.1 = who)) ∘ fun e : LkE => (e.who, e.m)) e = true := by simp [hw]
        rw [List.find?_cons, h3]
        rfl
      · have h1 : (e.s == s) = true := by rw [beq_iff_eq]; exact hs
        have h2 : (e.who == who && e.s == s) = false := by simp [hw]
        rw [if_pos h1, h2]
        have h3 : ((fun p : Int × Int => decide (p.1 = who)) ∘ fun e : LkE => (e.who, e.m)) e = false := by simp [hw]
        rw [List.find?_cons, h3]
        exact ih
    · have h1 : ¬ (e.s == s) = true := by rw [beq_iff_eq]; exact hs
      have h2 : (e.who == who && e.s == s) = false := by simp [hs]
      rw [if_neg h1, h2]
      exact ih
set_option maxRecDepth 100000 in
/-- Deletes. -/
theorem del_spot {w : World} {sb : Nat} {G : List (Spot × GX)} (h : MapAt Tryz.prog 30 skey GX.ptr w sb G) {s : Spot} (hs : SWf s) (ty : TypeId) :
    ∃ w', (Builtin.delete_ #[50, 30] ty #[.map (some sb), spV s]).run Tryz.prog w = .ok (.tuple #[]) w' ∧ MapAt Tryz.prog 30 skey GX.ptr w' sb (G.filter fun p => !decide (p.1 = s)) ∧ Fr w w' (fun j => j = sb) := by
  obtain ⟨D, h1, h2⟩ := h
  obtain ⟨w1, hrun, h3, h4⟩ := h1.drop Tryz.keySpot Tryz.underlying50 (keySpot hs) ty
  exact ⟨w1, hrun, .mk h3 (h2.del spotKey s), turned_fr h4⟩
set_option maxRecDepth 100000 in
theorem del_wait {w : World} {wb : Nat} {V : List (Int × Spot)} (h : MapAt Tryz.prog 2 ikey spV w wb V) {who : Int} (hw : (Lit.int .i64 who).wf = true) (ty : TypeId) :
    ∃ w', (Builtin.delete_ #[51, 2] ty #[.map (some wb), .int .i64 who]).run Tryz.prog w = .ok (.tuple #[]) w' ∧ MapAt Tryz.prog 2 ikey spV w' wb (V.filter fun p => !decide (p.1 = who)) ∧ Fr w w' (fun j => j = wb) := by
  obtain ⟨D, h1, h2⟩ := h
  obtain ⟨w1, hrun, h3, h4⟩ := h1.drop Tryz.keyI64 Tryz.underlying51 (keyW hw) ty
  exact ⟨w1, hrun, .mk h3 (h2.del intKey who), turned_fr h4⟩
set_option maxRecDepth 100000 in
theorem del_held {w : World} {hb : Nat} {M : List (Int × Int)} (h : MapAt Tryz.prog 2 ikey modV w hb M) {who : Int} (hw : (Lit.int .i64 who).wf = true) (ty : TypeId) :
    ∃ w', (Builtin.delete_ #[70, 2] ty #[.map (some hb), .int .i64 who]).run Tryz.prog w = .ok (.tuple #[]) w' ∧ MapAt Tryz.prog 2 ikey modV w' hb (M.filter fun p => !decide (p.1 = who)) ∧ Fr w w' (fun j => j = hb) := by
  obtain ⟨D, h1, h2⟩ := h
  obtain ⟨w1, hrun, h3, h4⟩ := h1.drop Tryz.keyI64 Tryz.underlying70 (keyW hw) ty
  exact ⟨w1, hrun, .mk h3 (h2.del intKey who), turned_fr h4⟩
/-- 'delete' whose run is known, as one operation. -/
theorem wp_del_run {P : Program} {w : World} {o : Oper} {a : Act} {K : Act → World → Prop} {Q : Exit → Act → World → Prop} (m x : Operand) (t k : TypeId) (hop : o.op = Op.call { callee := Callee.builtin Builtin.delete, args := #[m, x], argTypes := #[t, k] })
    (mv xv : Value) (hm : a.eval m = mv) (hx : a.eval x = xv) {w1 : World} (hrun : (Builtin.delete_ #[t, k] o.type #[mv, xv]).run P w = .ok (.tuple #[]) w1) (h : K (a.put o.dst (.tuple #[])) w1) : o.wp P a w K Q := by
  unfold Oper.wp execOp
  simp only [hop, resolve, invoke, builtin, Sem.run_bind, Sem.run_pure, Result.andThen_ok, List.map_toArray, List.map_cons, List.map_nil, hm, hx, hrun]
  exact h
theorem look_spot_out {w : World} {sb : Nat} {G : List (Spot × GX)} (h : MapAt Tryz.prog 30 skey GX.ptr w sb G) {s : Spot} (hs : SWf s) (hn : ∀ p ∈ G, p.1 ≠ s) : LookAt w sb s (.pointer none) := by
  rcases look_spot h hs with ⟨g, hg, _⟩ | ⟨_, h1⟩
  · exact absurd rfl (hn _ hg)
  · exact h1
theorem len_map {κ α : Type} {t k e : TypeId} {key : κ → Lit} {enc : α → Value} {w : World} {b : Nat} {M : List (κ × α)} (h : MapAt Tryz.prog k key enc w b M) (ht : Tryz.prog.underlying t = some (.map k e)) (ty : TypeId) : (Builtin.len_ #[t] ty #[.map (some b)]).run Tryz.prog w = .ok (.int .i64 (M.length : Int)) w := by
  obtain ⟨D, h1, h2⟩ := h
  rw [h1.len ht ty, h2.size]
end Go.Proofs.YtokeciekncincaaGreat
namespace Go.Proofs.YtokeciekncincaaGreat
open Go Go.RowKit Go.Maps

abbrev lkp (lb : Nat) : Value := .pointer (some ⟨lb, 0, none⟩)
/-- At lb lies a table of locks that reads as D; all that it is lies in S. -/
def LkA (w : World) (lb : Nat) (D : LkS) (S : Nat → Prop) : Prop := ∃ sb wb G, LkV w lb sb wb D (pairsW D.W) G S
theorem LkA.fr {w w' : World} {lb : Nat} {D : LkS} {S T : Nat → Prop} (h : LkA w lb D S) (hf : Fr w w' T) (hd : ∀ k, S k → ¬ T k) : LkA w' lb D S := by
  obtain ⟨sb, wb, G, h⟩ := h
  exact ⟨sb, wb, G, h.fr hf hd⟩
theorem LkA.fr0 {w w' : World} {lb : Nat} {D : LkS} {S : Nat → Prop} (h : LkA w lb D S) (hf : Fr w w' Nil) : LkA w' lb D S := h.fr hf fun _ _ h => h
theorem LkA.lt {w : World} {lb : Nat} {D : LkS} {S : Nat → Prop} (h : LkA w lb D S) : ∀ k, S k → k < w.heap.size := by
  obtain ⟨sb, wb, G, h⟩ := h
  exact h.lt
def NewLk (most : Int) (w : World) (e : Ending) (w' : World) : Prop := ∃ lb S, e = .returned (lkp lb) ∧ LkA w' lb ⟨max 0 most, [], []⟩ S ∧ (∀ k, S k → w.heap.size ≤ k) ∧ Fr w w' Nil
theorem lk_made (w : World) (m : Int) : LkA (((w.alloc (.map #[] 0)).alloc (.map #[] 0)).alloc (.cells #[.int .i64 m, .map (some w.heap.size), .map (some (w.heap.size + 1))] 53)) (w.heap.size + 2) ⟨m, [], []⟩ (fun k => k = w.heap.size ∨ k = w.heap.size + 1 ∨ k = w.heap.size + 2) := by
  refine ⟨w.heap.size, w.heap.size + 1, [], ?_, ?_, ?_, by omega, (fun p hp => by cases hp), (fun p hp => by cases hp), (fun p hp => by cases hp), (fun s _ => ⟨rfl, rfl, rfl⟩), (fun p hp => by cases hp), .inr (.inr rfl), .inl rfl, .inr (.inl rfl), (fun p hp => by cases hp), fun k hk => ?_⟩
  · have := Bk.new ((w.alloc (.map #[] 0)).alloc (.map #[] 0)) 53 #[.int .i64 m, .map (some w.heap.size), .map (some (w.heap.size + 1))]
    simpa using this
  · exact ((MapAt.made w Tryz.prog 30 skey GX.ptr).fr0 ((Fr.refl _ Nil).alloc _)).fr0 ((Fr.refl _ Nil).alloc _)
  · have := (MapAt.made (w.alloc (.map #[] 0)) Tryz.prog 2 ikey spV).fr0 ((Fr.refl _ Nil).alloc (.cells #[.int .i64 m, .map (some w.heap.size), .map (some (w.heap.size + 1))] 53))
    rw [World.size_alloc] at this
    exact this
  · simp only [World.size_alloc]; omega
set_option maxRecDepth 100000 in
set_option maxHeartbeats 1000000 in
theorem lknew_any (most : Int) (w : World) : Calls Tryz.prog 5 #[.int .i64 most] w (NewLk most w) := by
  have hmm := @run_makeMap Tryz.prog
  go_enter Tryz.func5, Tryz.ntmps5
  go_wp2_with fail
  · go_ret
    exact ⟨_, _, rfl, by rw [show max 0 most = most by omega]; exact lk_made w most, fun k hk => by (rcases hk with h | h | h <;> omega), (((Fr.refl w Nil).alloc _).alloc _).alloc _⟩
  · go_ret
    exact ⟨_, _, rfl, by rw [show max 0 most = 0 by omega]; exact lk_made w 0, fun k hk => by (rcases hk with h | h | h <;> omega), (((Fr.refl w Nil).alloc _).alloc _).alloc _⟩
theorem held_gone {D : LkS} {s : Spot} (h : holdsOf D.H s = []) (who : Int) : heldL D.H who s = 0 := by
  rw [← getV_holds, h]; rfl
set_option maxRecDepth 100000 in
set_option maxHeartbeats 2000000 in
theorem held_any {lb : Nat} {D : LkS} {S : Nat → Prop} (who : Int) (s : Spot) (w : World) (h : LkA w lb D S) (hw : (Lit.int .i64 who).wf = true) (hs : SWf s) :
    Calls Tryz.prog 11 #[lkp lb, .int .i64 who, spV s] w fun e w' => e = .returned (.int .u8 (heldL D.H who s)) ∧ Fr w w' Nil := by
  obtain ⟨sb, wb, G, hv⟩ := h
  obtain ⟨s1, s2, s3⟩ := s
  obtain ⟨r, hr⟩ : ∃ r, heldL D.H who (s1, s2, s3) = r := ⟨_, rfl⟩
  rw [hr]
  have HR := Lib.hid hr
  obtain ⟨wx, hwx⟩ : ∃ wx, w.alloc (.cells #[.int .i64 s1, .bool s2, .int .i64 s3] 30) = wx := ⟨_, rfl⟩
  have hf : Fr w wx Nil := by rw [← hwx]; exact (Fr.refl w Nil).alloc _
  have hb : Bk wx w.heap.size 30 [.int .i64 s1, .bool s2, .int .i64 s3] := by rw [← hwx]; exact Bk.new w _ _
  have hv2 := hv.fr0 hf
  have k1 : ∀ w', KeptN wx w' → w'.cell? ⟨lb, 1, none⟩ = some (.map (some sb)) := KeptN.cell (hv2.root.cell 1)
  have k2 : ∀ w', KeptN wx w' → w'.cell? ⟨w.heap.size, 0, none⟩ = some (.int .i64 s1) := KeptN.cell (hb.cell 0)
  have k3 : ∀ w', KeptN wx w' → w'.cell? ⟨w.heap.size, 1, none⟩ = some (.bool s2) := KeptN.cell (hb.cell 1)
  have k4 : ∀ w', KeptN wx w' → w'.cell? ⟨w.heap.size, 2, none⟩ = some (.int .i64 s3) := KeptN.cell (hb.cell 2)
  have HF := Lib.hid hf
  by_cases hin : ∃ g, ((s1, s2, s3), g) ∈ G
  · obtain ⟨g, hg⟩ := hin
    have hx := hv2.at_ _ hg
    have k5 : ∀ w', KeptN wx w' → (Instr.lookup 50 (.map (some sb)) (.agg #[.int .i64 s1, .bool s2, .int .i64 s3]) false).run Tryz.prog w' = .ok (xptr g.xb) w' := fun w' hk' => look_spot_in (hv2.fr0 hk').spots hs hg
    have k6 : ∀ w', KeptN wx w' → w'.cell? ⟨g.xb, 0, none⟩ = some (.map (some g.hb)) := KeptN.cell (hx.box.cell 0)
    have k7 : ∀ w', KeptN wx w' → (Instr.lookup 70 (.map (some g.hb)) (.int .i64 who) false).run Tryz.prog w' = .ok (.int .u8 r) w' := fun w' hk' => by
      have h1 := look_held (hx.fr0 hk').holds hw
      rw [getV_holds, hr] at h1
      exact h1
    generalize g.xb = xb at *
    generalize g.hb = hb' at *
    clear hx hv hv2 hf hb hg hr
    go_enter Tryz.func11, Tryz.ntmps11
    go_wp2_with fail
    refine wp_region_sink 10 (KeptN wx) (by kernel_rfl) ?_
    have hSa : KeptN wx wx.drew := KeptN.start wx
    refine tk 0 hSa ?_
    refine tk 1 hSa ?_
    refine tk 2 hSa ?_
    refine tk 3 hSa ?_
    refine tk 4 hSa ?_
    refine tk 5 hSa ?_
    try simp only [Act.put, sA, sB, sC]
    refine tk 6 hSa ?_ (hy := by intro _ w; have ck1 := k1 _ w; go_simp <;> with_reducible rfl)
    try simp only [Act.put, sA, sB, sC]
    refine tk 7 hSa ?_ (hy := by intro _ w; have ck2 := k2 _ w; have ck3 := k3 _ w; have ck4 := k4 _ w; go_simp <;> with_reducible rfl)
    try simp only [Act.put, sA, sB, sC]
    refine tk 8 hSa ?_ (hy := by intro _ w; have ck5 := k5 _ w; go_simp <;> with_reducible rfl)
    try simp only [Act.put, sA, sB, sC]
    refine tk 9 hSa ?_
    try simp only [Act.put, sA, sB, sC]
    refine wpAnyS_last (i := 10) rfl (by kernel_rfl) (by decide) (by kernel_rfl) (by rfl) fun K hK => ?_
    go_simp
    refine hK.out _ _ ?_
    clear hK K
    go_wp2_with fail
    refine wp_region_sink 11 (KeptN wx) (by kernel_rfl) ?_
    have hSb : KeptN wx wx.drew.drew := hSa.next (Fr.refl _ Nil).drew
    refine tk 0 hSb ?_
    refine tk 1 hSb ?_
    refine tk 2 hSb ?_
    try simp only [Act.put, sA, sB, sC]
    refine tk 3 hSb ?_ (hy := by intro _ w; have ck1 := k1 _ w; go_simp <;> with_reducible rfl)
    try simp only [Act.put, sA, sB, sC]
    refine tk 4 hSb ?_ (hy := by intro _ w; have ck2 := k2 _ w; have ck3 := k3 _ w; have ck4 := k4 _ w; go_simp <;> with_reducible rfl)
    try simp only [Act.put, sA, sB, sC]
    refine tk 5 hSb ?_ (hy := by intro _ w; have ck5 := k5 _ w; go_simp <;> with_reducible rfl)
    try simp only [Act.put, sA, sB, sC]
    refine tk 6 hSb ?_
    refine tk 7 hSb ?_
    try simp only [Act.put, sA, sB, sC]
    refine tk 8 hSb ?_ (hy := by intro _ w; have ck6 := k6 _ w; go_simp <;> with_reducible rfl)
    try simp only [Act.put, sA, sB, sC]
    refine tk 9 hSb ?_
    try simp only [Act.put, sA, sB, sC]
    refine tk 10 hSb ?_ (hy := by intro _ w; have ck7 := k7 _ w; go_simp <;> with_reducible rfl)
    try simp only [Act.put, sA, sB, sC]
    refine wpAnyS_last (i := 11) rfl (by kernel_rfl) (by decide) (by kernel_rfl) (by rfl) fun K hK => ?_
    go_simp
    refine hK.out _ _ ?_
    clear hK K
    have HFS := Lib.hid (HF.out.trans0 hSb.fr)
    clear hSa hSb k1 k2 k3 k4 k5 k6 k7
    go_wp2_with fail
    go_ret
    exact ⟨rfl, HFS.out⟩
  · have hno : ∀ p ∈ G, p.1 ≠ (s1, s2, s3) := fun p hp e => hin ⟨p.2, by rw [← e]; exact hp⟩
    have k5 : ∀ w', KeptN wx w' → (Instr.lookup 50 (.map (some sb)) (.agg #[.int .i64 s1, .bool s2, .int .i64 s3]) false).run Tryz.prog w' = .ok (.pointer none) w' := fun w' hk' => look_spot_out (hv2.fr0 hk').spots hs hno
    have hr0 : r = 0 := by rw [← hr]; exact held_gone (hv2.gone _ hno).1 who
    subst hr0
    clear hv hv2 hf hb hno hr hin
    go_enter Tryz.func11, Tryz.ntmps11
    go_wp2_with fail
    refine wp_region_sink 10 (KeptN wx) (by kernel_rfl) ?_
    have hSa : KeptN wx wx.drew := KeptN.start wx
    refine tk 0 hSa ?_
    refine tk 1 hSa ?_
    refine tk 2 hSa ?_
    refine tk 3 hSa ?_
    refine tk 4 hSa ?_
    refine tk 5 hSa ?_
    try simp only [Act.put, sA, sB, sC]
    refine tk 6 hSa ?_ (hy := by intro _ w; have ck1 := k1 _ w; go_simp <;> with_reducible rfl)
    try simp only [Act.put, sA, sB, sC]
    refine tk 7 hSa ?_ (hy := by intro _ w; have ck2 := k2 _ w; have ck3 := k3 _ w; have ck4 := k4 _ w; go_simp <;> with_reducible rfl)
    try simp only [Act.put, sA, sB, sC]
    refine tk 8 hSa ?_ (hy := by intro _ w; have ck5 := k5 _ w; go_simp <;> with_reducible rfl)
    try simp only [Act.put, sA, sB, sC]
    refine tk 9 hSa ?_
    try simp only [Act.put, sA, sB, sC]
    refine wpAnyS_last (i := 10) rfl (by kernel_rfl) (by decide) (by kernel_rfl) (by rfl) fun K hK => ?_
    go_simp
    refine hK.out _ _ ?_
    clear hK K
    have HFS := Lib.hid (HF.out.trans0 hSa.fr)
    clear hSa k1 k2 k3 k4 k5
    go_wp2_with fail
    go_ret
    exact ⟨rfl, HFS.out⟩
end Go.Proofs.YtokeciekncincaaGreat
namespace Go.Proofs.YtokeciekncincaaGreat
open Go Go.RowKit Go.Maps

theorem sum_parts : ∀ (ks : List Spot) (l : List LkE), ks.Nodup → (∀ e ∈ l, e.s ∈ ks) → (ks.map fun s => (l.filter fun e => e.s == s).length).sum = l.length
  | [], l, _, h => by
    cases l with
    | nil => rfl
    | cons e l => have := h e List.mem_cons_self; cases this
  | k :: ks, l, hn, h => by
    obtain ⟨h1, h2⟩ := List.nodup_cons.1 hn
    rw [List.map_cons, List.sum_cons]
    have h3 := sum_parts ks (l.filter fun e => e.s != k) h2 fun e he => by
      obtain ⟨h4, h5⟩ := List.mem_filter.1 he
      rw [bne_iff_ne] at h5
      exact (List.mem_cons.1 (h e h4)).resolve_left h5
    have h6 : (ks.map fun s => ((l.filter fun e => e.s != k).filter fun e => e.s == s).length) = ks.map fun s => (l.filter fun e => e.s == s).length := by
      refine List.map_congr_left fun s hs => ?_
      rw [List.filter_filter]
      refine congrArg List.length (List.filter_congr fun e _ => ?_)
      by_cases he : e.s = s
      · have : e.s ≠ k := fun e2 => h1 (by rw [← e2, he]; exact hs)
        have h7 : (e.s != k) = true := by rw [bne_iff_ne]; exact this
        rw [h7, Bool.and_true]
      · have h7 : (e.s == s) = false := by rw [beq_eq_false_iff_ne]; exact he
        rw [h7, Bool.false_and]
    rw [h6] at h3
    rw [h3]
    clear h3 h6 h hn h1 h2
    induction l with
    | nil => rfl
    | cons e l ih =>
      rw [List.filter_cons, List.filter_cons]
      by_cases he : e.s = k
      · have h7 : (e.s == k) = true := by rw [beq_iff_eq]; exact he
        have h8 : (e.s != k) = false := by simp [he]
        rw [if_pos h7, h8]
        simp only [List.length_cons, Bool.false_eq_true, if_false]
        omega
      · have h7 : ¬ (e.s == k) = true := by rw [beq_iff_eq]; exact he
        have h8 : (e.s != k) = true := by rw [bne_iff_ne]; exact he
        rw [if_neg h7, if_pos h8, List.length_cons, List.length_cons]
        omega
def useP (D : LkS) (p : Spot × GX) : Nat := (holdsOf D.H p.1).length + (prs (restL D.H D.W p.1)).length
def useS (D : LkS) (L : List (Spot × GX)) : Nat := (L.map (useP D)).sum
theorem useS_mid (D : LkS) (A B : List (Spot × GX)) (p : Spot × GX) : useS D (A ++ p :: B) = useS D (A ++ B) + useP D p := by
  unfold useS
  simp only [List.map_append, List.map_cons, List.sum_append, List.sum_cons]
  omega
theorem restL_filter (H W : List LkE) (s : Spot) : restL H W s = (W.filter fun e => heldL H e.who e.s == 0).filter fun e => e.s == s := by
  unfold restL
  rw [List.filter_filter]
  refine List.filter_congr fun e _ => ?_
  by_cases h : e.s = s
  · subst h; simp
  · have h7 : (e.s == s) = false := by rw [beq_eq_false_iff_ne]; exact h
    rw [h7, Bool.false_and, Bool.false_and]
theorem useS_all {w : World} {lb sb wb : Nat} {D : LkS} {V : List (Int × Spot)} {G : List (Spot × GX)} {S : Nat → Prop} (h : LkV w lb sb wb D V G S) : useS D G = usedL D := by
  have hk := h.spots.nodup
  have hH : ∀ e ∈ D.H, e.s ∈ G.map Prod.fst := fun e he => by
    apply Classical.byContradiction
    intro hn
    have h1 := (h.gone e.s fun p hp e2 => hn (List.mem_map.2 ⟨p, hp, e2⟩)).1
    have h2 : (e.who, e.m) ∈ holdsOf D.H e.s := List.mem_map.2 ⟨e, List.mem_filter.2 ⟨he, by simp⟩, rfl⟩
    rw [h1] at h2; cases h2
  have hR : ∀ e ∈ D.W.filter (fun e => heldL D.H e.who e.s == 0), e.s ∈ G.map Prod.fst := fun e he => by
    apply Classical.byContradiction
    intro hn
    have h1 := (h.gone e.s fun p hp e2 => hn (List.mem_map.2 ⟨p, hp, e2⟩)).2.2
    have h2 : e ∈ restL D.H D.W e.s := by rw [restL_filter]; exact List.mem_filter.2 ⟨he, by simp⟩
    have h3 : restL D.H D.W e.s = [] := List.map_eq_nil_iff.1 h1
    rw [h3] at h2; cases h2
  have s1 := sum_parts _ _ hk hH
  have s2 := sum_parts _ _ hk hR
  have e1 : useS D G = ((G.map Prod.fst).map fun s => (D.H.filter fun e => e.s == s).length).sum + ((G.map Prod.fst).map fun s => ((D.W.filter fun e => heldL D.H e.who e.s == 0).filter fun e => e.s == s).length).sum := by
    unfold useS
    clear s1 s2 hH hR hk h
    induction G with
    | nil => rfl
    | cons p G ih =>
      simp only [List.map_cons, List.sum_cons]
      rw [ih]
      have e2 : useP D p = (D.H.filter fun e => e.s == p.1).length + ((D.W.filter fun e => heldL D.H e.who e.s == 0).filter fun e => e.s == p.1).length := by
        unfold useP
        rw [prs_len, restL_filter]
        unfold holdsOf
        rw [prs_len]
      rw [e2]
      omega
  rw [e1, s1, s2]
  rfl
theorem Tryz.invSpot : ∀ v kl, keyOf Tryz.prog 30 v = some kl → ∃ x : Spot, v = spV x ∧ kl = skey x := fun v kl h => by
  obtain ⟨s, h1, h2, _⟩ := keySpot_inv h
  exact ⟨s, h1, h2⟩
theorem wrapS (x : Int) (h1 : 0 ≤ x) (h2 : x ≤ 1000000) : wrap64 x = x := by unfold wrap64; omega
theorem wrapK (x : Int) (h1 : 0 ≤ x) (h2 : x ≤ 1000000) : IntKind.i64.wrap x = x := by rw [IntKind.wrap_i64]; omega
theorem use_bounds {m u nh nr n : Nat} (h : m + u + (nh + nr) = n) (hn : n ≤ 100000) : IntKind.i64.wrap ((nh : Int) + (nr : Int)) = (nh : Int) + (nr : Int) ∧ IntKind.i64.wrap ((m : Int) + ((nh : Int) + (nr : Int))) = (m : Int) + ((nh : Int) + (nr : Int)) ∧
    wrap64 ((nh : Int) + (nr : Int)) = (nh : Int) + (nr : Int) ∧ wrap64 ((m : Int) + ((nh : Int) + (nr : Int))) = (m : Int) + ((nh : Int) + (nr : Int)) :=
  ⟨wrapK _ (by omega) (by omega), wrapK _ (by omega) (by omega), wrapS _ (by omega) (by omega), wrapS _ (by omega) (by omega)⟩
/-- What is to be shown where a spot comes: shut, so that no walk takes it apart. -/
def MoreSp (ops : Array Oper) (rest : List Oper) (o : Oper) (a : Act) (Q : Exit → Act → World → Prop) (w : World) (b r : Nat) (M L : List (Spot × GX)) : Prop :=
  ∀ (x : Spot) (c : GX) (A B : List (Spot × GX)) (w' : World), L = A ++ (x, c) :: B → RangeAt Tryz.prog 30 skey GX.ptr w' b r M (A ++ B) → Fr w w' (fun j => j = r) → w'.heap.size = w.heap.size → w'.rangeLeft b r < w.rangeLeft b r →
      (Instr.entry (.pointer (some ⟨r, 0, none⟩))).run Tryz.prog w' = .ok (.tuple #[spV x, xptr c.xb]) w' → wpList Tryz.prog ops Q rest (a.put o.dst (.tuple #[.bool true, spV x, xptr c.xb])) w'
section
variable {ops : Array Oper} {rest : List Oper} {o : Oper} {a : Act} {Q : Exit → Act → World → Prop}
theorem next_sp (w : World) (hg : o.guard = none) (it : Operand) (hop : o.op = Op.next it false) (b r : Nat) (M L : List (Spot × GX))
    (hit : a.eval it = .pointer (some ⟨r, 0, none⟩)) (h : RangeAt Tryz.prog 30 skey GX.ptr w b r M L)
    (hDone : L = [] → wpList Tryz.prog ops Q rest (a.put o.dst (.tuple #[.bool false])) w) (hMore : MoreSp ops rest o a Q w b r M L) : wpList Tryz.prog ops Q (o :: rest) a w :=
  wpList_map_next w hg it hop 30 Tryz.keySpot spotKey spV Tryz.invSpot b r M L hit h hDone hMore
end
set_option maxRecDepth 100000 in
set_option maxHeartbeats 2000000 in
theorem used_any {lb : Nat} {D : LkS} {S : Nat → Prop} {N : Nat} (w : World) (h : LkA w lb D S) (hD : DOk N D) (hN : N ≤ 100000) :
    Calls Tryz.prog 16 #[lkp lb] w fun e w' => e = .returned (.int .i64 (usedL D : Nat)) ∧ Fr w w' Nil := by
  obtain ⟨sb, wb, G, hv⟩ := h
  have hall := useS_all hv
  have huse : usedL D ≤ 100000 := by
    have h1 := hD.few
    have h2 := List.length_filter_le (fun e => heldL D.H e.who e.s == 0) D.W
    unfold usedL
    omega
  obtain ⟨n, hn⟩ : ∃ n, usedL D = n := ⟨_, rfl⟩
  rw [hn] at hall huse ⊢
  have HV := Lib.hid hv
  have HALL := Lib.hid hall
  have HU := Lib.hid huse
  have q1 : w.cell? ⟨lb, 1, none⟩ = some (.map (some sb)) := hv.root.cell 1
  clear hall huse hn hD
  go_enter Tryz.func16, Tryz.ntmps16
  go_wp2_with (at_range; refine wpList_map_range _ rfl _ 50 rfl 30 66 Tryz.keySpot Tryz.underlying50 spotKey sb G rfl HV.out.spots ?_; intro w0 hr0 hf0 hs0)
  have Hr0 := Lib.hid hr0
  have Hf0 : Hid (Fr w w0 Nil) := hf0
  clear hr0 hf0 hs0 q1 hv
  go_frame
  generalize hrb : w.heap.size = rb at *
  have HRB := Lib.hid hrb
  clear hrb
  go_loopw [3] (fun vn wr => ∃ (m : Nat) (L : List (Spot × GX)), vn = .int .i64 (m : Int) ∧ Hid (m + useS D L = n) ∧ Hid (RangeAt Tryz.prog 30 skey GX.ptr wr sb rb G L) ∧ Hid (Fr w wr Nil)) (fun _ wr => wr.rangeLeft sb rb)
  case atStart => exact ⟨0, G, rfl, by show 0 + _ = n; rw [Nat.zero_add]; exact HALL.out, Hr0.out, Hf0.out⟩
  case round =>
    clear Hr0 Hf0
    obtain ⟨m, L, rfl, HM, Hr, Hf⟩ := hrel
    go_wp2_with (at_next; refine next_sp _ rfl _ rfl sb rb G L rfl Hr.out ?_ ?_)
    · intro hL
      have HL := Lib.hid hL
      clear hL
      go_wp2_with fail
      go_ret
      have : m = n := by
        have h1 := HM.out
        rw [HL.out] at h1
        simpa [useS] using h1
      subst this
      exact ⟨rfl, Hf.out⟩
    · unfold MoreSp
      intro s g A B w1 hL hr1 hf1 hs1 hlt hen
      have Hr1 := Lib.hid hr1
      have Hf1 : Hid (Fr w w1 Nil) := Hf.out.trans hf1 fun j hj hj2 => by have := HRB.out; omega
      have HL := Lib.hid hL
      have Hlt := Lib.hid hlt
      have hin : (s, g) ∈ G := Hr.out.sub _ (by rw [hL]; exact List.mem_append.2 (.inr List.mem_cons_self))
      have hx := (HV.out.fr0 Hf1.out).at_ _ hin
      have hsum : m + useS D (A ++ B) + ((holdsOf D.H s).length + (prs (restL D.H D.W s)).length) = n := by
        have h1 := HM.out
        rw [hL, useS_mid] at h1
        have h2 : useP D (s, g) = (holdsOf D.H s).length + (prs (restL D.H D.W s)).length := rfl
        omega
      have HSUM := Lib.hid hsum
      obtain ⟨ra, rc, hrv⟩ := hx.rest.shape
      have k1 : ∀ w', KeptN w1 w' → w'.cell? ⟨g.xb, 0, none⟩ = some (.map (some g.hb)) := KeptN.cell (hx.box.cell 0)
      have k2 : ∀ w', KeptN w1 w' → w'.cell? ⟨g.xb, 2, none⟩ = some (.slice ra (prs (restL D.H D.W s)).length rc) := KeptN.cell (by rw [← hrv]; exact hx.box.cell 2)
      have k3 : ∀ w', KeptN w1 w' → (Builtin.len_ #[70] 3 #[.map (some g.hb)]).run Tryz.prog w' = .ok (.int .i64 ((holdsOf D.H s).length : Int)) w' := fun w' hk => len_map (hx.fr0 hk).holds Tryz.underlying70 3
      have hub := HU.out
      obtain ⟨nh, hnh⟩ : ∃ nh, (holdsOf D.H s).length = nh := ⟨_, rfl⟩
      obtain ⟨nr, hnr⟩ : ∃ nr, (prs (restL D.H D.W s)).length = nr := ⟨_, rfl⟩
      rw [hnh] at k3 HSUM hsum
      rw [hnr] at k2 HSUM hsum
      obtain ⟨hw1, hw2, hw3, hw4⟩ := use_bounds hsum hub
      generalize g.xb = xb at *
      generalize g.hb = hb' at *
      clear hL hr1 hf1 hlt hin hx hsum hrv hub hnh hnr
      go_wp2_with fail
      refine wp_region_sink 13 (KeptN w1) (by kernel_rfl) ?_
      have hSa : KeptN w1 w1.drew := KeptN.start w1
      refine tk 0 hSa ?_
      refine tk 1 hSa ?_
      refine tk 2 hSa ?_
      refine tk 3 hSa ?_
      try simp only [Act.put, sA, sB, sC]
      refine tk 4 hSa ?_ (hy := by intro _ w; have ck1 := k1 _ w; go_simp <;> with_reducible rfl)
      try simp only [Act.put, sA, sB, sC]
      refine tk 5 hSa ?_ (hy := by intro _ w; have ck3 := k3 _ w; go_simp <;> with_reducible rfl)
      try simp only [Act.put, sA, sB, sC]
      refine tk 6 hSa ?_
      refine tk 7 hSa ?_
      refine tk 8 hSa ?_
      try simp only [Act.put, sA, sB, sC]
      refine tk 9 hSa ?_ (hy := by intro _ w; have ck2 := k2 _ w; go_simp <;> with_reducible rfl)
      try simp only [Act.put, sA, sB, sC]
      refine tk 10 hSa ?_
      refine tk 11 hSa ?_
      refine tk 12 hSa ?_
      try simp only [Act.put, sA, sB, sC]
      refine wpAnyS_last (i := 13) rfl (by kernel_rfl) (by decide) (by kernel_rfl) (by rfl) fun K hK => ?_
      go_simp
      refine hK.out _ _ ?_
      clear hK K
      have HS2 := Lib.hid hSa.fr
      clear hSa k1 k2 k3
      go_wp2_with fail
      go_roundw
      case rel => exact ⟨m + (nh + nr), A ++ B, by go_num, (by have h1 := HSUM.out; show m + (nh + nr) + useS D (A ++ B) = n; omega), Hr1.out.fr0 HS2.out, Hf1.out.trans0 HS2.out⟩
      case measure => rw [Hr1.out.left HS2.out (fun h => h) fun h => h]; exact Hlt.out
end Go.Proofs.YtokeciekncincaaGreat
namespace Go.Proofs.YtokeciekncincaaGreat
open Go Go.RowKit Go.Maps

set_option maxRecDepth 100000 in
set_option maxHeartbeats 2000000 in
theorem lqueue_any {lb : Nat} {D : LkS} {S : Nat → Prop} {N : Nat} (s : Spot) (w : World) (h : LkA w lb D S) (hD : DOk N D) (hN : N ≤ 100000) (hs : SWf s) :
    Calls Tryz.prog 10 #[lkp lb, spV s] w (NewH (prs (queueL D.H D.W s)) w) := by
  obtain ⟨sb, wb, G, hv⟩ := h
  obtain ⟨wx, hwx⟩ : ∃ wx, w.alloc (.cells #[.int .i64 s.1, .bool s.2.1, .int .i64 s.2.2] 30) = wx := ⟨_, rfl⟩
  have hf : Fr w wx Nil := by rw [← hwx]; exact (Fr.refl w Nil).alloc _
  have hb : Bk wx w.heap.size 30 [.int .i64 s.1, .bool s.2.1, .int .i64 s.2.2] := by rw [← hwx]; exact Bk.new w _ _
  have hv2 := hv.fr0 hf
  have k1 : ∀ w', KeptN wx w' → w'.cell? ⟨lb, 1, none⟩ = some (.map (some sb)) := KeptN.cell (hv2.root.cell 1)
  have k2 : ∀ w', KeptN wx w' → w'.cell? ⟨w.heap.size, 0, none⟩ = some (.int .i64 s.1) := KeptN.cell (hb.cell 0)
  have k3 : ∀ w', KeptN wx w' → w'.cell? ⟨w.heap.size, 1, none⟩ = some (.bool s.2.1) := KeptN.cell (hb.cell 1)
  have k4 : ∀ w', KeptN wx w' → w'.cell? ⟨w.heap.size, 2, none⟩ = some (.int .i64 s.2.2) := KeptN.cell (hb.cell 2)
  have HF := Lib.hid hf
  rw [prs_queue]
  by_cases hin : ∃ g, (s, g) ∈ G
  · obtain ⟨g, hg⟩ := hin
    have HX := Lib.hid (hv2.at_ _ hg)
    have HQF := Lib.hid (Nat.le_trans (Nat.le_trans (queue_few hD s) hN) (by decide : 100000 ≤ 1000000))
    have k5 : ∀ w', KeptN wx w' → (Instr.lookup 50 (.map (some sb)) (.agg #[.int .i64 s.1, .bool s.2.1, .int .i64 s.2.2]) false).run Tryz.prog w' = .ok (xptr g.xb) w' := fun w' hk' => look_spot_in (hv2.fr0 hk').spots hs hg
    clear hv hv2 hf hb hg
    go_enter Tryz.func10, Tryz.ntmps10
    go_wp2_with fail
    refine wp_region_sink 10 (KeptN wx) (by kernel_rfl) ?_
    have hSa : KeptN wx wx.drew := KeptN.start wx
    refine tk 0 hSa ?_
    refine tk 1 hSa ?_
    refine tk 2 hSa ?_
    refine tk 3 hSa ?_
    refine tk 4 hSa ?_
    refine tk 5 hSa ?_
    try simp only [Act.put, sA, sB, sC]
    refine tk 6 hSa ?_ (hy := by intro _ w; have ck1 := k1 _ w; go_simp <;> with_reducible rfl)
    try simp only [Act.put, sA, sB, sC]
    refine tk 7 hSa ?_ (hy := by intro _ w; have ck2 := k2 _ w; have ck3 := k3 _ w; have ck4 := k4 _ w; go_simp <;> with_reducible rfl)
    try simp only [Act.put, sA, sB, sC]
    refine tk 8 hSa ?_ (hy := by intro _ w; have ck5 := k5 _ w; go_simp <;> with_reducible rfl)
    try simp only [Act.put, sA, sB, sC]
    refine tk 9 hSa ?_
    try simp only [Act.put, sA, sB, sC]
    refine wpAnyS_last (i := 10) rfl (by kernel_rfl) (by decide) (by kernel_rfl) (by rfl) fun K hK => ?_
    go_simp
    refine hK.out _ _ ?_
    clear hK K
    go_wp2_with fail
    refine wp_region_sink 7 (KeptN wx) (by kernel_rfl) ?_
    have hSb : KeptN wx wx.drew.drew := hSa.next (Fr.refl _ Nil).drew
    refine tk 0 hSb ?_
    refine tk 1 hSb ?_
    refine tk 2 hSb ?_
    try simp only [Act.put, sA, sB, sC]
    refine tk 3 hSb ?_ (hy := by intro _ w; have ck1 := k1 _ w; go_simp <;> with_reducible rfl)
    try simp only [Act.put, sA, sB, sC]
    refine tk 4 hSb ?_ (hy := by intro _ w; have ck2 := k2 _ w; have ck3 := k3 _ w; have ck4 := k4 _ w; go_simp <;> with_reducible rfl)
    try simp only [Act.put, sA, sB, sC]
    refine tk 5 hSb ?_ (hy := by intro _ w; have ck5 := k5 _ w; go_simp <;> with_reducible rfl)
    try simp only [Act.put, sA, sB, sC]
    refine on1 6 fun K hK => ?_
    go_simp
    refine (queue_any (HX.out.fr0 hSb.fr) HQF.out).mono ?_
    rintro e w3 ⟨v3, rfl, h1, h2, h3⟩
    have hSc : KeptN wx w3 := hSb.next h3
    refine hK.out _ _ hSc ?_
    clear hK K
    try simp only [Act.put, sA, sB, sC]
    refine wpAnyS_last (i := 7) rfl (by kernel_rfl) (by decide) (by kernel_rfl) (by rfl) fun K hK => ?_
    go_simp
    refine hK.out _ _ ?_
    clear hK K
    have HN1 := Lib.hid h1
    have HN2 := Lib.hid h2
    have HN3 := Lib.hid (HF.out.trans0 hSc.fr)
    have HSZ := Lib.hid (HF.out.trans0 hSb.fr).size
    clear hSa hSb hSc h1 h2 h3 k1 k2 k3 k4 k5
    go_wp2_with fail
    go_ret
    exact ⟨v3, rfl, HN1.out, fun k hk => Nat.le_trans HSZ.out (HN2.out k hk), HN3.out⟩
  · have hno : ∀ p ∈ G, p.1 ≠ s := fun p hp e => hin ⟨p.2, by rw [← e]; exact hp⟩
    obtain ⟨_, hg2, hg3⟩ := hv.gone s hno
    have hg2' : prs (upL D.H D.W s) = [] := hg2
    have hg3' : prs (restL D.H D.W s) = [] := hg3
    rw [hg2', hg3']
    have k5 : ∀ w', KeptN wx w' → (Instr.lookup 50 (.map (some sb)) (.agg #[.int .i64 s.1, .bool s.2.1, .int .i64 s.2.2]) false).run Tryz.prog w' = .ok (.pointer none) w' := fun w' hk' => look_spot_out (hv2.fr0 hk').spots hs hno
    clear hv hv2 hf hb hg2 hg3 hg2' hg3' hno hin
    go_enter Tryz.func10, Tryz.ntmps10
    go_wp2_with fail
    refine wp_region_sink 10 (KeptN wx) (by kernel_rfl) ?_
    have hSa : KeptN wx wx.drew := KeptN.start wx
    refine tk 0 hSa ?_
    refine tk 1 hSa ?_
    refine tk 2 hSa ?_
    refine tk 3 hSa ?_
    refine tk 4 hSa ?_
    refine tk 5 hSa ?_
    try simp only [Act.put, sA, sB, sC]
    refine tk 6 hSa ?_ (hy := by intro _ w; have ck1 := k1 _ w; go_simp <;> with_reducible rfl)
    try simp only [Act.put, sA, sB, sC]
    refine tk 7 hSa ?_ (hy := by intro _ w; have ck2 := k2 _ w; have ck3 := k3 _ w; have ck4 := k4 _ w; go_simp <;> with_reducible rfl)
    try simp only [Act.put, sA, sB, sC]
    refine tk 8 hSa ?_ (hy := by intro _ w; have ck5 := k5 _ w; go_simp <;> with_reducible rfl)
    try simp only [Act.put, sA, sB, sC]
    refine tk 9 hSa ?_
    try simp only [Act.put, sA, sB, sC]
    refine wpAnyS_last (i := 10) rfl (by kernel_rfl) (by decide) (by kernel_rfl) (by rfl) fun K hK => ?_
    go_simp
    refine hK.out _ _ ?_
    clear hK K
    have HFS := Lib.hid (HF.out.trans0 hSa.fr)
    clear hSa k1 k2 k3 k4 k5
    go_wp2_with fail
    go_ret
    exact ⟨.slice none 0 0, rfl, OwnH.nil _, (fun k hk => by cases hk), HFS.out⟩
end Go.Proofs.YtokeciekncincaaGreat
