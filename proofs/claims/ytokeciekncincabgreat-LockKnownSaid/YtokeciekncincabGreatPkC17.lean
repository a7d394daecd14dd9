/-
  Walk of woken: spots are granted, one after another.
  No condition but sizes.
  Walks of Free and Cancel.
  No condition but sizes.
  The table of locks behind a grant and behind a wish, as it lies.
  No condition.
  How many are woken at most. Plain.
  No condition.
-/
import Derived.Test.YtokeciekncincabGreatPkC15
import Derived.Test.YtokeciekncincabGreatPkC8
import Derived.Test.YtokeciekncincabGreatPkC16
import Derived.Test.YtokeciekncincabGreatPkC14
import Derived.Maps.OwnIn
import Derived.Test.YtokeciekncincabGreatPkC4
namespace Go.Proofs.YtokeciekncincabGreat
open Go Go.RowKit Go.Maps Go.Shelf

/-- The iterator's number. -/
abbrev RGF : Nat := 89
attribute [local go_sem] Oper.semAt_some

abbrev lptr (lb : Nat) : Value := .pointer (some ⟨lb, 0, none⟩)
theorem wokenL_append (D : LkS) : ∀ (a b : List Spot), wokenL D (a ++ b) = ((wokenL D a).1 ++ (wokenL (wokenL D a).2 b).1, (wokenL (wokenL D a).2 b).2) := by
  intro a
  induction a generalizing D with
  | nil => intro b; simp [wokenL]
  | cons s a ih =>
    intro b
    show wokenL D (s :: (a ++ b)) = _
    rw [wokenL, ih]
    simp [wokenL, List.append_assoc]
theorem wokenL_snoc (D : LkS) (a : List Spot) (s : Spot) : wokenL D (a ++ [s]) = ((wokenL D a).1 ++ (regrantL (wokenL D a).2.W.length (wokenL D a).2 s).1, (regrantL (wokenL D a).2.W.length (wokenL D a).2 s).2) := by
  rw [wokenL_append]
  simp [wokenL]
theorem regrantL_gone {D : LkS} {s : Spot} (h : queueL D.H D.W s = []) : ∀ t, regrantL t D s = ([], D)
  | 0 => rfl
  | t + 1 => by rw [regrantL, h]
theorem ok_regrant {N : Nat} (s : Spot) : ∀ (t : Nat) {D : LkS}, DOk N D → DOk N (regrantL t D s).2
  | 0, _, h => h
  | t + 1, D, h => by
    rw [regrantL]
    split
    · exact h
    · rename_i e l hq
      split
      · exact ok_regrant s t (h.grant hq)
      · exact h
theorem regrant_len (s : Spot) : ∀ (t : Nat) (D : LkS), (regrantL t D s).1.length + (regrantL t D s).2.W.length ≤ D.W.length
  | 0, _ => by simp [regrantL]
  | t + 1, D => by
    rw [regrantL]
    split
    · simp
    · rename_i e l hq
      split
      · have h1 := regrant_len s t (grantL D e s)
        have h2 := dropA_len (queueL_mem (H := D.H) (W := D.W) (s := s) (e := e) (by rw [hq]; exact List.mem_cons_self)).1
        have h3 : (grantL D e s).W.length = (dropA D.W e.who).length := rfl
        simp only [List.length_cons]
        omega
      · simp
theorem woken_len : ∀ (l : List Spot) (D : LkS), (wokenL D l).1.length + (wokenL D l).2.W.length ≤ D.W.length
  | [], _ => by simp [wokenL]
  | s :: l, D => by
    rw [wokenL]
    have h1 := regrant_len s D.W.length D
    have h2 := woken_len l (regrantL D.W.length D s).2
    simp only [List.length_append]
    omega
theorem Goes.len {s : Spot} {D D1 : LkS} {pre : List Int} (h : Goes s D pre D1) : pre.length + D1.W.length ≤ D.W.length := by
  have h1 := h 0
  have h2 := regrant_len s (pre.length + 0) D
  rw [h1] at h2
  have h3 : (pre ++ (regrantL 0 D1 s).1).length = pre.length := by simp [regrantL]
  rw [h3] at h2
  exact h2
theorem ok_woken {N : Nat} : ∀ (l : List Spot) {D : LkS}, DOk N D → DOk N (wokenL D l).2
  | [], _, h => h
  | s :: l, _, h => ok_woken l (ok_regrant s _ h)
theorem sl64 : SlT Tryz.prog 40 2 1 8 := SlT.mk (z := .int .i64 0) Tryz.underlying40 (by kernel_rfl) rfl (by decide) (by decide)
theorem one_new (W : World) (x : Int) : SlAt (W.alloc (.cells #[.int .i64 x] 2)) 1 (.slice (some ⟨W.heap.size, 0, none⟩) 1 1) 1 [.int .i64 x] := by
  refine ⟨rfl, .inr ⟨⟨W.heap.size, 0, none⟩, 1, rfl, fun k u hu => ?_⟩⟩
  have h1 := (Bk.new W 2 #[.int .i64 x]).cell k
  rw [Addr.add_lit, Nat.zero_add, h1]
  exact hu
/-- Where woken's own things lie: the box of the table's pointer, the box of who was woken, these, the spots that are granted, marks; B and the block behind it are a loop's. -/
structure WkJ (w : World) (S : Nat → Prop) (B lb bt : Nat) (v : Value) (ss : List Spot) (ds : List Nat) (outs : List Int) (W : World) : Prop where
  tb : Bk W bt 24 [lptr lb]
  out : ∃ ov, Bk W (bt + 1) 40 [ov] ∧ OwnInts W 2 ov outs ∧ ∀ k, ov.ownBlock = some k → w.heap.size ≤ k ∧ k ≠ bt ∧ k ≠ bt + 1 ∧ k ≠ B ∧ k ≠ B + 1
  sl : SlAt W 3 v ss.length (ss.flatMap sp3)
  nodup : ds.Nodup
  marks : ∀ D ∈ ds, W.heap[D]? = some (.deferred (some []))
  dnew : ∀ D ∈ ds, w.heap.size ≤ D ∧ D < B
  fr : Fr w W S
section
variable {w W W' : World} {S : Nat → Prop} {B lb bt : Nat} {v : Value} {ss : List Spot} {ds : List Nat} {outs : List Int}
theorem WkJ.fr1 {T : Nat → Prop} (h : WkJ w S B lb bt v ss ds outs W) (hf : Fr W W' T) (h1 : ¬ T bt) (h2 : ¬ T (bt + 1)) (h3 : ∀ k, v.ownBlock = some k → ¬ T k)
    (h4 : ∀ k, w.heap.size ≤ k → k ≠ B → k ≠ B + 1 → ¬ T k) (h5 : ∀ D ∈ ds, ¬ T D) (h6 : ∀ k, T k → k < w.heap.size → S k) : WkJ w S B lb bt v ss ds outs W' := by
  obtain ⟨ov, o1, o2, o3⟩ := h.out
  refine ⟨h.tb.fr hf h1, ⟨ov, o1.fr hf h2, o2.fr hf fun k hk => h4 k (o3 k hk).1 (o3 k hk).2.2.2.1 (o3 k hk).2.2.2.2, o3⟩, h.sl.fr hf h3, h.nodup, fun D hD => ?_, h.dnew, h.fr.trans hf fun k hk hT => h6 k hT hk⟩
  exact (hf.block D (Array.getElem?_eq_some_iff.1 (h.marks D hD)).1 (h5 D hD)).trans (h.marks D hD)
theorem WkJ.fr0 (h : WkJ w S B lb bt v ss ds outs W) (hf : Fr W W' Nil) : WkJ w S B lb bt v ss ds outs W' :=
  h.fr1 hf (fun h => h) (fun h => h) (fun _ _ h => h) (fun _ _ _ _ h => h) (fun _ _ h => h) (fun _ h => h.elim)
/-- What is not of woken's own turns. -/
theorem WkJ.frS (h : WkJ w S B lb bt v ss ds outs W) (hf : Fr W W' S) (hb : w.heap.size ≤ bt) (hS : ∀ k, S k → k < w.heap.size) (hv : ∀ k, v.ownBlock = some k → ¬ S k) : WkJ w S B lb bt v ss ds outs W' :=
  h.fr1 hf (fun h => by have := hS _ h; omega) (fun h => by have := hS _ h; omega) hv (fun k h1 _ _ h => by have := hS _ h; omega) (fun D hD h => by have := hS _ h; have := (‹WkJ w S B lb bt v ss ds outs W›.dnew D hD).1; omega) fun _ h _ => h
theorem WkJ.put (h : WkJ w S B lb bt v ss ds outs W) (hb : w.heap.size ≤ bt) (hB : bt + 1 < B) (hv : ∀ k, v.ownBlock = some k → k < w.heap.size) {k : Nat} (hk : B ≤ k) (hk2 : k ≤ B + 1) (o : Obj) : WkJ w S B lb bt v ss ds outs (W.putObj k o) :=
  h.fr1 (fr_put W k o) (by omega) (by omega) (fun j hj e => by have := hv j hj; omega) (fun j _ h1 h2 e => by omega) (fun D hD e => by have := (h.dnew D hD).2; omega) (fun j e hj => by omega)
/-- The loop's blocks are others. -/
theorem WkJ.next (h : WkJ w S B lb bt v ss ds outs W) (hB : B ≤ W.heap.size) : WkJ w S W.heap.size lb bt v ss ds outs W := by
  obtain ⟨ov, o1, o2, o3⟩ := h.out
  refine ⟨h.tb, ⟨ov, o1, o2, fun k hk => ⟨(o3 k hk).1, (o3 k hk).2.1, (o3 k hk).2.2.1, ?_, ?_⟩⟩, h.sl, h.nodup, h.marks, fun D hD => ⟨(h.dnew D hD).1, Nat.lt_of_lt_of_le (h.dnew D hD).2 hB⟩, h.fr⟩
  · have := o2.lt k hk; omega
  · have := o2.lt k hk; omega
/-- A mark more. -/
theorem WkJ.mark (h : WkJ w S B lb bt v ss ds outs W) (hB : B < W.heap.size) (hw : w.heap.size ≤ B) (hm : W.heap[B]? = some (.deferred (some []))) : WkJ w S W.heap.size lb bt v ss (B :: ds) outs W := by
  have h1 := h.next (by omega)
  refine ⟨h1.tb, h1.out, h1.sl, List.nodup_cons.2 ⟨fun hd => by have := (h.dnew B hd).2; omega, h1.nodup⟩, fun D hD => ?_, fun D hD => ?_, h1.fr⟩
  · rcases List.mem_cons.1 hD with rfl | hD
    · exact hm
    · exact h1.marks D hD
  · rcases List.mem_cons.1 hD with rfl | hD
    · exact ⟨hw, hB⟩
    · exact h1.dnew D hD
end
section
variable {lb sb wb : Nat} {D : LkS} {S : Nat → Prop} {s : Spot} {xb Bx N B : Nat} {J : List Int → World → Prop}
theorem rgI_quiet (hJ : ∀ pre W k o, J pre W → B ≤ k → k ≤ B + 1 → J pre (W.putObj k o)) (hS : ∀ k, S k → k < B) (hB : Bx < B) (pre : List Int) : Quiet B (RgI lb sb wb D S s xb Bx N J pre) := by
  rintro W k o o' ⟨D1, G, h1, h2, h3, h4, h5, h6⟩ hk hk2 _ _
  exact ⟨D1, G, h1, h2, h3.fr (fr_put W k o') (fun j hj e => by have := hS j hj; omega), h4, h5.fr (fr_put W k o') (by omega), hJ _ _ _ _ h6 hk hk2⟩
theorem rgY_quiet (hJ : ∀ pre W k o, J pre W → B ≤ k → k ≤ B + 1 → J pre (W.putObj k o)) (hS : ∀ k, S k → k < B) (hB : Bx < B) (pre : List Int) (x : Int) : Quiet B (RgY lb sb wb D S s xb Bx N J pre x) := by
  rintro W k o o' ⟨D1, e, rest, G, h1, h2, h3, h4, h5, h6, h7, h8, h9⟩ hk hk2 _ _
  exact ⟨D1, e, rest, G, h1, h2, h3, h4, h5, h6.fr (fr_put W k o') (fun j hj e => by have := hS j hj; omega), h7, h8.fr (fr_put W k o') (by omega), hJ _ _ _ _ h9 hk hk2⟩
theorem rgE_quiet (hJ : ∀ pre W k o, J pre W → B ≤ k → k ≤ B + 1 → J pre (W.putObj k o)) (hS : ∀ k, S k → k < B) : Quiet B (RgE lb sb wb D S s xb N J) := by
  rintro W k o o' ⟨pre, D1, G, h1, h2, h3, h4, h5⟩ hk hk2 _ _
  exact ⟨pre, D1, G, h1, h2, h3.fr (fr_put W k o') (fun j hj e => by have := hS j hj; omega), h4, hJ _ _ _ _ h5 hk hk2⟩
/-- Behind a round: who was woken waits no more, and is told. -/
theorem round_end {w W' W3 W4 : World} {D2 : LkS} {G2 : List (Spot × GX)} {e : LkE} {bt : Nat} {v : Value} {ss : List Spot} {ds : List Nat} {outs : List Int} {oa ga : Option Addr} {no oc gc : Nat}
    (hv : LkV W' lb sb wb (grantL D2 e s) (pairsW D2.W) G2 S) (hj : WkJ w S B lb bt v ss ds outs W') (hno : outs.length = no) (ho : OwnInts W' 2 (.slice oa no oc) outs) (hS : ∀ k, S k → k < w.heap.size) (hbt : w.heap.size ≤ bt) (hBt : bt + 1 < B) (hvv : ∀ k, v.ownBlock = some k → k < w.heap.size ∧ ¬ S k) (hB : B + 2 ≤ W'.heap.size)
    (hm : MapAt Tryz.prog 2 ikey spV W3 wb ((pairsW D2.W).filter fun p => !decide (p.1 = e.who))) (hf3 : Fr W' W3 (fun j => j = wb)) (o3 : ∀ k, (Value.slice oa no oc).ownBlock = some k → w.heap.size ≤ k ∧ k ≠ bt ∧ k ≠ bt + 1 ∧ k ≠ B ∧ k ≠ B + 1)
    (ho4 : W4.ownsRow 0 2 1 (.slice ga (no + 1) gc) (no + 1) (outs.map (Value.int .i64) ++ [.int .i64 e.who])) (hg4 : (W3.alloc (.cells #[.int .i64 e.who] 2)).grownBy W4 (Value.slice oa no oc).ownBlock)
    (hb4 : (Value.slice ga (no + 1) gc).ownBlock = (Value.slice oa no oc).ownBlock ∨ (Value.slice ga (no + 1) gc).ownBlock = some (W3.alloc (.cells #[.int .i64 e.who] 2)).heap.size) (hb5 : Bk W4 (bt + 1) 40 [.slice oa no oc]) :
    LkV (W4.setCell ⟨bt + 1, 0, none⟩ (.slice ga (no + 1) gc)) lb sb wb (grantL D2 e s) (pairsW (grantL D2 e s).W) G2 S ∧ WkJ w S B lb bt v ss ds (outs ++ [e.who]) (W4.setCell ⟨bt + 1, 0, none⟩ (.slice ga (no + 1) gc)) ∧
    Fr W' (W4.setCell ⟨bt + 1, 0, none⟩ (.slice ga (no + 1) gc)) (fun k => k = wb ∨ k = bt + 1 ∨ (Value.slice oa no oc).ownBlock = some k) := by
  subst hno
  have hwb := hS wb hv.inW
  have hfg : Fr W3 W4 (fun k => (Value.slice oa outs.length oc).ownBlock = some k) := (((Fr.refl W3 Nil).alloc (.cells #[.int .i64 e.who] 2)).of_nil).grown hg4 fun k hk _ => hk
  have hf5 : Fr W4 (W4.setCell ⟨bt + 1, 0, none⟩ (.slice ga (outs.length + 1) gc)) (fun k => k = bt + 1) := Fr.store _ _ _ _
  have hf35 : Fr W3 (W4.setCell ⟨bt + 1, 0, none⟩ (.slice ga (outs.length + 1) gc)) (fun k => k = bt + 1 ∨ (Value.slice oa outs.length oc).ownBlock = some k) := (hfg.mono fun k _ h => .inr h).trans hf5 fun k _ h => .inl h
  have hf : Fr W' (W4.setCell ⟨bt + 1, 0, none⟩ (.slice ga (outs.length + 1) gc)) (fun k => k = wb ∨ k = bt + 1 ∨ (Value.slice oa outs.length oc).ownBlock = some k) := (hf3.mono fun k _ h => .inl h).trans hf35 fun k _ h => .inr h
  have hs4 : W'.heap.size ≤ W4.heap.size := Nat.le_trans hf3.size hfg.size
  have hga : ∀ k, (Value.slice ga (outs.length + 1) gc).ownBlock = some k → w.heap.size ≤ k ∧ k ≠ bt ∧ k ≠ bt + 1 ∧ k ≠ B ∧ k ≠ B + 1 := fun k hk => by
    rcases hb4 with h | h
    · exact o3 k (h.symm.trans hk)
    · rw [h] at hk
      cases hk
      have h1 := hf3.size
      rw [World.size_alloc]
      have h2 := hj.fr.size
      refine ⟨by omega, by omega, by omega, by omega, by omega⟩
  refine ⟨?_, ⟨?_, ⟨_, hb5.set 0 _, ?_, hga⟩, ?_, hj.nodup, fun D hD => ?_, hj.dnew, ?_⟩, hf⟩
  · have h1 := LkG.waitsTo hv hm hf3
    rw [← pairsW_drop] at h1
    refine LkV.fr h1 hf35 fun k hk h => ?_
    have := hS k hk
    rcases h with h | h
    · omega
    · have := (o3 k h).1; omega
  · refine hj.tb.fr hf fun h => ?_
    rcases h with h | h | h
    · omega
    · omega
    · exact (o3 _ h).2.1 rfl
  · have h1 : OwnInts W4 2 (.slice ga (outs.length + 1) gc) (outs ++ [e.who]) := by
      unfold OwnInts
      rw [List.length_append, List.map_append]
      exact ho4
    exact h1.fr hf5 fun k hk h => (hga k hk).2.2.1 h
  · refine hj.sl.fr hf fun k hk h => ?_
    have := hvv k hk
    rcases h with h | h | h
    · exact this.2 (by rw [h]; exact hv.inW)
    · omega
    · have := (o3 k h).1; omega
  · refine (hf.block D (Array.getElem?_eq_some_iff.1 (hj.marks D hD)).1 fun h => ?_).trans (hj.marks D hD)
    have h1 := hj.dnew D hD
    have h2 := hj.marks D hD
    rcases h with h | h | h
    · omega
    · subst h
      obtain ⟨ov, q1, _⟩ := hj.out
      unfold Bk at q1
      rw [h2] at q1; cases q1
    · obtain ⟨c, hc⟩ := row_ty ho h
      rw [h2] at hc; cases hc
  · refine hj.fr.trans hf fun k hk h => ?_
    rcases h with h | h | h
    · rw [h]; exact hv.inW
    · omega
    · have := (o3 k h).1; omega
end
/-- What lies while spots are granted. -/
structure WkAt (w : World) (lb sb wb : Nat) (D : LkS) (S : Nat → Prop) (N bt : Nat) (v : Value) (ss : List Spot) (k : Nat) (ds : List Nat) (W : World) : Prop where
  at_ : ∃ G, LkV W lb sb wb (wokenL D (ss.take k)).2 (pairsW (wokenL D (ss.take k)).2.W) G S
  ok : DOk N (wokenL D (ss.take k)).2
  j : WkJ w S W.heap.size lb bt v ss ds (wokenL D (ss.take k)).1 W
def WkRet (lb sb wb : Nat) (D : LkS) (S : Nat → Prop) (N : Nat) (ss : List Spot) (w : World) (e : Ending) (w' : World) : Prop :=
  ∃ ov G, e = .returned ov ∧ OwnInts w' 2 ov (wokenL D ss).1 ∧ (∀ k, ov.ownBlock = some k → w.heap.size ≤ k) ∧ LkV w' lb sb wb (wokenL D ss).2 (pairsW (wokenL D ss).2.W) G S ∧ DOk N (wokenL D ss).2 ∧ Fr w w' S
set_option maxRecDepth 100000 in
set_option maxHeartbeats 4000000 in
theorem woken_any {lb sb wb : Nat} {D : LkS} {G : List (Spot × GX)} {S : Nat → Prop} {N : Nat} {v : Value} {ss : List Spot} {w : World} (hN : N ≤ 100000) (h : LkV w lb sb wb D (pairsW D.W) G S) (hD : DOk N D) (hv : SlAt w 3 v ss.length (ss.flatMap sp3)) (hvS : ∀ k, v.ownBlock = some k → ¬ S k ∧ k < w.heap.size)
    (hss : ∀ s ∈ ss, SWf s) (hl : ss.length ≤ 1000000) :
    Calls Tryz.prog 45 #[lptr lb, v] w (WkRet lb sb wb D S N ss w) := by
  refine (callsIn_wide (n := 8)).1 ?_
  refine callsIn_of_wp_marks Tryz.func45 rfl trivial ?_ rfl
  simp only [Tryz.ntmps45, List.size_toArray, List.length_cons, List.length_nil, Nat.reduceAdd, Nat.reduceSub, Array.replicate_succ, Array.replicate_zero, List.push_toArray, List.append_toArray, List.nil_append, List.cons_append]
  obtain ⟨a, cap, rfl⟩ := hv.shape
  obtain ⟨w0, hw0⟩ : ∃ w0, (w.alloc (.cells #[lptr lb] 24)).alloc (.cells #[.slice none 0 0] 40) = w0 := ⟨_, rfl⟩
  have hf0 : Fr w w0 Nil := by rw [← hw0]; exact ((Fr.refl w Nil).alloc _).alloc _
  have hb1 : Bk w0 w.heap.size 24 [lptr lb] := by rw [← hw0]; exact (Bk.new w _ _).alloc _
  have hb2 : Bk w0 (w.heap.size + 1) 40 [.slice none 0 0] := by
    rw [← hw0]
    have := Bk.new (w.alloc (.cells #[lptr lb] 24)) 40 #[.slice none 0 0]
    rw [World.size_alloc] at this
    exact this
  have HS : Hid (∀ k, S k → k < w.heap.size) := h.lt
  have HW : Hid (WkAt w lb sb wb D S N w.heap.size (.slice a ss.length cap) ss 0 [] w0) := by
    have : WkAt w lb sb wb D S N w.heap.size (.slice a ss.length cap) ss 0 [] w0 := ⟨⟨G, h.fr0 hf0⟩, hD, hb1, ⟨_, hb2, World.ownsRow_nil _ _ _ _, fun k hk => by cases hk⟩, hv.fr0 hf0, List.Pairwise.nil, (fun D hD => by cases hD), (fun D hD => by cases hD), hf0.of_nil⟩
    exact this
  have HDW : Hid (D.W.length ≤ N) := Nat.le_trans (Nat.le_add_left _ _) hD.few
  have HVS := Lib.hid hvS
  have HSS := Lib.hid hss
  have HN := Lib.hid hN
  have HL := Lib.hid hl
  gi_wp2
  obtain ⟨bt, hbt⟩ : ∃ bt, w.heap.size = bt := ⟨_, rfl⟩
  rw [hbt] at HW ⊢
  have HBT := Lib.hid hbt
  clear hw0 hf0 hb1 hb2 h hD hv hvS hss hN hbt hl
  refine wpIn_loop (fun a' W => ∃ (k : Nat) (ds : List Nat) (u7 u8 u9 u13 u14 u15 u16 u17 u18 u19 u20 u21 u22 u23 u24 u25 u26 u27 u28 u29 u30 u31 u32 u33 u34 u35 u36 u37 u38 u39 u40 u41 u42 u43 u44 u45 u46 u47 u48 u49 u50 u51 u52 u53 u54 : Value), a' = { tmps := #[lptr lb, .slice a ss.length cap, .pointer (some ⟨bt, 0, none⟩), undef, .slice none 0 0, .pointer (some ⟨bt + 1, 0, none⟩), undef, u7, u8, u9, .slice a ss.length cap, .int .i64 (ss.length : Int), .int .i64 (k : Int), u13, u14, u15, u16, u17, u18, u19, u20, u21, u22, u23, u24, u25, u26, u27, u28, u29, u30, u31, u32, u33, u34, u35, u36, u37, u38, u39, u40, u41, u42, u43, u44, u45, u46, u47, u48, u49, u50, u51, u52, u53, u54], defers := ds.map markD } ∧ k ≤ ss.length ∧ WkAt w lb sb wb D S N bt (.slice a ss.length cap) ss k ds W)
    (fun a' _ => ss.length - (intOf (a'.tmps.getD 12 undef)).toNat) ?start ?round
  case start => exact ⟨0, [], _, _, _, _, _, _, _, _, _, _, _, _, _, _, _, _, _, _, _, _, _, _, _, _, _, _, _, _, _, _, _, _, _, _, _, _, _, _, _, _, _, _, _, _, _, rfl, by omega, HW.out⟩
  case round =>
    clear HW
    rintro a' W ⟨k, ds, u7, u8, u9, u13, u14, u15, u16, u17, u18, u19, u20, u21, u22, u23, u24, u25, u26, u27, u28, u29, u30, u31, u32, u33, u34, u35, u36, u37, u38, u39, u40, u41, u42, u43, u44, u45, u46, u47, u48, u49, u50, u51, u52, u53, u54, rfl, hk, hwk⟩
    have HWK := Lib.hid hwk
    clear hwk
    by_cases hlt : k < ss.length
    · obtain ⟨G1, hv1⟩ := HWK.out.at_
      have hok := HWK.out.ok
      have hj := HWK.out.j
      obtain ⟨D1, hD1⟩ : ∃ D1, (wokenL D (ss.take k)).2 = D1 := ⟨_, rfl⟩
      obtain ⟨O1, hO1⟩ : ∃ O1, (wokenL D (ss.take k)).1 = O1 := ⟨_, rfl⟩
      rw [hD1] at hv1 hok
      rw [hO1] at hj
      have HSN : Hid (wokenL D (ss.take (k + 1)) = (O1 ++ (regrantL D1.W.length D1 ss[k]).1, (regrantL D1.W.length D1 ss[k]).2)) := by
        have : wokenL D (ss.take (k + 1)) = (O1 ++ (regrantL D1.W.length D1 ss[k]).1, (regrantL D1.W.length D1 ss[k]).2) := by
          rw [List.take_succ_eq_append_getElem hlt, wokenL_snoc, hD1, hO1]
        exact this
      have HOL : Hid (O1.length + D1.W.length ≤ D.W.length) := by
        have h1 := woken_len (ss.take k) D
        rw [hD1, hO1] at h1
        exact h1
      have HV1 := Lib.hid hv1
      have HOK := Lib.hid hok
      have HJ1 := Lib.hid hj
      have hws : SWf ss[k] := HSS.out _ (List.getElem_mem hlt)
      obtain ⟨b, off, cap', hvv, hcl⟩ := flat_form (n := 3) (f := sp3) (fun _ => rfl) (by decide) hj.sl (by omega)
      simp only [Value.slice.injEq, true_and] at hvv
      obtain ⟨rfl, rfl⟩ := hvv
      have hgt := List.getElem?_eq_getElem hlt
      generalize ss[k] = s at hgt HSN hws
      have p0 := hcl k s hgt 0 _ rfl
      have p1 := hcl k s hgt 1 _ rfl
      have p2 := hcl k s hgt 2 _ rfl
      simp only [Nat.add_zero] at p0 p1 p2
      have HWS := Lib.hid hws
      have hkl : (k : Int) < (ss.length : Int) := by omega
      have hkm : (k : Int) + 1 ≤ 1000000 := by have := HL.out; omega
      obtain ⟨W1, hW1⟩ : ∃ W1, W.alloc (.cells #[.int .i64 s.1, .bool s.2.1, .int .i64 s.2.2] 30) = W1 := ⟨_, rfl⟩
      have hf1 : Fr W W1 Nil := by rw [← hW1]; exact (Fr.refl W Nil).alloc _
      have hb7 : Bk W1 W.heap.size 30 [.int .i64 s.1, .bool s.2.1, .int .i64 s.2.2] := by rw [← hW1]; exact Bk.new W _ _
      have hs1 : W1.heap.size = W.heap.size + 1 := by rw [← hW1]; simp
      have hv2 := hv1.fr0 hf1
      have k0 : ∀ w', KeptN W1 w' → w'.cell? ⟨bt, 0, none⟩ = some (lptr lb) := KeptN.cell ((hj.tb.fr hf1 fun h => h).cell 0)
      have k1 : ∀ w', KeptN W1 w' → w'.cell? ⟨lb, 1, none⟩ = some (.map (some sb)) := KeptN.cell (hv2.root.cell 1)
      have k2 : ∀ w', KeptN W1 w' → w'.cell? ⟨W.heap.size, 0, none⟩ = some (.int .i64 s.1) := KeptN.cell (hb7.cell 0)
      have k3 : ∀ w', KeptN W1 w' → w'.cell? ⟨W.heap.size, 1, none⟩ = some (.bool s.2.1) := KeptN.cell (hb7.cell 1)
      have k4 : ∀ w', KeptN W1 w' → w'.cell? ⟨W.heap.size, 2, none⟩ = some (.int .i64 s.2.2) := KeptN.cell (hb7.cell 2)
      have HB7 := Lib.hid hb7
      have HF1 := Lib.hid hf1
      have HS1 := Lib.hid hs1
      by_cases hin : ∃ g, (s, g) ∈ G1
      · obtain ⟨g, hg⟩ := hin
        have k5 : ∀ w', KeptN W1 w' → (Instr.lookup 56 (.map (some sb)) (.agg #[.int .i64 s.1, .bool s.2.1, .int .i64 s.2.2]) false).run Tryz.prog w' = .ok (xptr g.xb) w' := fun w' hk' => look_spot_in (hv2.fr0 hk').spots hws hg
        have HG := Lib.hid hg
        have HJB : Hid (bt + 1 < W.heap.size) := by obtain ⟨_, o1, _⟩ := hj.out; exact o1.lt
        clear hv1 hok hj hws hcl hgt hf1 hb7 hs1 hv2 hg hD1 hO1
        gi_wp2
        refine wpIn_region_sinkW 6 (KeptN W1) (by kernel_rfl) (by kernel_rfl) ?_
        have hSa : KeptN W1 W1.drew := KeptN.start W1
        refine tk 0 hSa ?_ (hy := by intro _ w; have ck0 := k0 _ w; go_simp <;> with_reducible rfl)
        try simp only [Act.put, sA, sB, sC]
        refine tk 1 hSa ?_
        refine tk 2 hSa ?_
        try simp only [Act.put, sA, sB, sC]
        refine tk 3 hSa ?_ (hy := by intro _ w; have ck1 := k1 _ w; go_simp <;> with_reducible rfl)
        try simp only [Act.put, sA, sB, sC]
        refine tk 4 hSa ?_ (hy := by intro _ w; have ck2 := k2 _ w; have ck3 := k3 _ w; have ck4 := k4 _ w; go_simp <;> with_reducible rfl)
        try simp only [Act.put, sA, sB, sC]
        refine tk 5 hSa ?_ (hy := by intro _ w; have ck5 := k5 _ w; go_simp <;> with_reducible rfl)
        try simp only [Act.put, sA, sB, sC]
        refine wpAnyS_last (i := 6) rfl (by kernel_rfl) (by decide) (by kernel_rfl) (by rfl) fun K hK => ?_
        go_simp
        refine hK.out _ _ ?_
        clear hK K
        clear hSa k0 k1 k2 k3 k4 k5 p0 p1 p2
        dsimp only [OnlyEnd]
        gi_wp2
        refine ⟨trivial, ?_⟩
        refine (callsIn_wide.2 (regrant_any g.xb _)).mono ?_
        rintro e w2 ⟨rfl, rfl⟩
        obtain ⟨W2, hW2⟩ : ∃ W2, W1.drew.alloc (.cells #[xptr g.xb] 71) = W2 := ⟨_, rfl⟩
        have hf2 : Fr W W2 Nil := by rw [← hW2]; exact (HF1.out.trans0 (Fr.refl W1 Nil).drew).alloc _
        have hbx2 : Bk W2 W1.heap.size 71 [xptr g.xb] := by rw [← hW2]; exact Bk.new W1.drew _ _
        have hs2 : W2.heap.size = W1.heap.size + 1 := by rw [← hW2]; simp
        rw [hW2]
        have hb72 : Bk W2 W.heap.size 30 [.int .i64 s.1, .bool s.2.1, .int .i64 s.2.2] := by rw [← hW2]; exact (HB7.out.fr (Fr.refl W1 Nil).drew fun h => h).alloc _
        have HF2 := Lib.hid hf2
        have HBX2 := Lib.hid hbx2
        have HS2 := Lib.hid hs2
        have HB72 := Lib.hid hb72
        obtain ⟨Bx, hBx⟩ : ∃ Bx, W1.heap.size = Bx := ⟨_, rfl⟩
        have hdsz : W1.drew.heap.size = Bx := hBx
        rw [hBx] at HBX2 HS2
        rw [hdsz]
        have HBXE := Lib.hid hBx
        clear hf2 hbx2 hs2 hb72 hW2 hW1 hBx
        gi_wp2
        have hWB : W2.heap.size = W.heap.size + 2 := by rw [HS2.out, ← HBXE.out, HS1.out]
        have hww := HJ1.out.fr.size
        have HWB := Lib.hid hWB
        have HWW := Lib.hid hww
        have hgl := HV1.out.lt
        have hbtn := HBT.out
        have hjbn := HJB.out
        have HSB : Hid (∀ j, S j → j < W2.heap.size) := fun j hj => by have := HS.out j hj; omega
        have HJP : Hid (∀ (pre : List Int) (W' : World) (k' : Nat) (o : Obj), (WkJ w S W2.heap.size lb bt (.slice (some ⟨b, off, none⟩) ss.length cap) ss ds (O1 ++ pre) W' ∧ Bk W' W.heap.size 30 [.int .i64 s.1, .bool s.2.1, .int .i64 s.2.2]) → W2.heap.size ≤ k' → k' ≤ W2.heap.size + 1 → (WkJ w S W2.heap.size lb bt (.slice (some ⟨b, off, none⟩) ss.length cap) ss ds (O1 ++ pre) (W'.putObj k' o) ∧ Bk (W'.putObj k' o) W.heap.size 30 [.int .i64 s.1, .bool s.2.1, .int .i64 s.2.2])) :=
          fun pre W' k' o h1 h2 h3 => ⟨h1.1.put (by omega) (by omega) (fun j hj => (HVS.out j hj).2) h2 h3 o, h1.2.fr (fr_put W' k' o) (by omega)⟩
        have HJS : Hid (∀ (pre : List Int) (A B : World), (WkJ w S W2.heap.size lb bt (.slice (some ⟨b, off, none⟩) ss.length cap) ss ds (O1 ++ pre) A ∧ Bk A W.heap.size 30 [.int .i64 s.1, .bool s.2.1, .int .i64 s.2.2]) → Fr A B S → (WkJ w S W2.heap.size lb bt (.slice (some ⟨b, off, none⟩) ss.length cap) ss ds (O1 ++ pre) B ∧ Bk B W.heap.size 30 [.int .i64 s.1, .bool s.2.1, .int .i64 s.2.2])) :=
          fun pre A B h1 hf => ⟨h1.1.frS hf (by omega) HS.out (fun j hj => (HVS.out j hj).1), h1.2.fr hf fun hs => by have := HS.out _ hs; omega⟩
        clear hbtn hjbn
        refine wpIn_rangeOwn (F := Fence.wide) (n := 8) rfl (by decide) (gf := 89) (lb := #[.pointer (some ⟨Bx, 0, none⟩)]) rfl trivial (enters_of Tryz.func89 (by kernel_rfl) rfl) (encs := fun x : Int => #[.int .i64 x]) (fun _ => rfl)
          (RgI lb sb wb D1 S s g.xb Bx N (fun pre W' => WkJ w S W2.heap.size lb bt (.slice (some ⟨b, off, none⟩) ss.length cap) ss ds (O1 ++ pre) W' ∧ Bk W' W.heap.size 30 [.int .i64 s.1, .bool s.2.1, .int .i64 s.2.2]))
          (RgY lb sb wb D1 S s g.xb Bx N (fun pre W' => WkJ w S W2.heap.size lb bt (.slice (some ⟨b, off, none⟩) ss.length cap) ss ds (O1 ++ pre) W' ∧ Bk W' W.heap.size 30 [.int .i64 s.1, .bool s.2.1, .int .i64 s.2.2]))
          (RgE lb sb wb D1 S s g.xb N (fun pre W' => WkJ w S W2.heap.size lb bt (.slice (some ⟨b, off, none⟩) ss.length cap) ss ds (O1 ++ pre) W' ∧ Bk W' W.heap.size 30 [.int .i64 s.1, .bool s.2.1, .int .i64 s.2.2]))
          ?qi ?qy ?qe ?i0 ?iter (fun x : Int => { tmps := #[lptr lb, .slice (some ⟨b, off, none⟩) ss.length cap, .pointer (some ⟨bt, 0, none⟩), undef, .slice none 0 0, .pointer (some ⟨bt + 1, 0, none⟩), undef, .pointer (some ⟨W.heap.size, 0, none⟩), xptr g.xb, .int .i64 x, .slice (some ⟨b, off, none⟩) ss.length cap, .int .i64 (ss.length : Int), .int .i64 (k : Int), .bool true, .pointer (some ⟨b, off + k * 3, none⟩), spV s, lptr lb, .pointer (some ⟨lb, 0, none⟩), .pointer (some ⟨lb, 1, none⟩), .map (some sb), spV s, xptr g.xb, xptr g.xb, .bool false, xptr g.xb, .func (.func RGF) #[] #[.pointer (some ⟨Bx, 0, none⟩)], .int .i64 x, u27, u28, u29, u30, u31, u32, u33, u34, u35, u36, u37, u38, u39, u40, u41, u42, u43, u44, u45, u46, u47, u48, u49, u50, u51, u52, u53, u54], defers := [] }) ?assign ?body ?done
        case assign =>
          intro l x W' K hK
          gi_wp2
          exact hK
        case qi => exact rgI_quiet HJP.out HSB.out (by have := HS2.out; omega)
        case qy => exact rgY_quiet HJP.out HSB.out (by have := HS2.out; omega)
        case qe => exact rgE_quiet HJP.out HSB.out
        case i0 =>
          intro W' hf
          have hf2 := HF2.out.trans0 hf
          refine ⟨D1, G1, Goes.nil _ _, HOK.out, HV1.out.fr0 hf2, ⟨g, HG.out, rfl⟩, HBX2.out.fr hf fun h => h, ?_, HB72.out.fr hf fun h => h⟩
          rw [List.append_nil]
          have h1 := (HJ1.out.fr0 HF2.out).next HF2.out.size
          exact h1.fr0 hf
        case iter =>
          intro l W' K hK hl hY hI0 hK0 hsz hfr
          exact regrant1_in 7 (by decide) l HN.out _ K HJS.out (fun A B hA hf => hK A B hA (hf.mono fun j _ hj => HSB.out j hj)) (fun h9 => by have := HS.out _ h9; have := HBXE.out; have := HS1.out; have := HWW.out; omega) W' hY hI0 hK0
        case body =>
          intro l pre x W' hy hsz
          obtain ⟨D2, e, rest, G2, hex, hgo, hok2, hq, hc, hv2, hxi, hbx3, hj2, hb3⟩ := hy
          subst hex
          have hroot := hv2.root
          have q0 : W'.cell? ⟨bt, 0, none⟩ = some (lptr lb) := hj2.tb.cell 0
          have q1 : W'.cell? ⟨lb, 2, none⟩ = some (.map (some wb)) := hroot.cell 2
          obtain ⟨ov, o1, o2, o3⟩ := hj2.out
          have q2 : W'.cell? ⟨bt + 1, 0, none⟩ = some ov := o1.cell 0
          have he := queueL_mem (H := D2.H) (W := D2.W) (s := s) (e := e) (by rw [hq]; exact List.mem_cons_self)
          have hww2 := (hok2.wf.2 e he.1).1
          obtain ⟨DM, hown, hMI⟩ := hv2.waits
          have HYV := Lib.hid hv2
          have HYJ := Lib.hid hj2
          have HYB := Lib.hid hb3
          have HOWN := Lib.hid hown
          have HMI := Lib.hid hMI
          have HKW := Lib.hid (keyW hww2)
          have HGO := Lib.hid hgo
          have HOK2 := Lib.hid hok2
          have HQ := Lib.hid hq
          have HC := Lib.hid hc
          have HXI := Lib.hid hxi
          have HBX3 := Lib.hid hbx3
          have HSZ := Lib.hid hsz
          obtain ⟨no, hno⟩ : ∃ no, (O1 ++ pre).length = no := ⟨_, rfl⟩
          obtain ⟨oa, oc, rfl⟩ := o2.shape
          have hwbS : wb < w.heap.size := HS.out wb hv2.inW
          have HFA : Hid (∀ W3, W'.mapTurned W3 wb → W3.cell? ⟨bt + 1, 0, none⟩ = some (.slice oa no oc) ∧ Bk W3 (bt + 1) 40 [.slice oa no oc] ∧ W3.ownsRow 0 2 1 (.slice oa no oc) no ((O1 ++ pre).map (Value.int .i64)) ∧ (W3.alloc (.cells #[.int .i64 e.who] 2)).ownsRow 0 2 1 (.slice oa no oc) no ((O1 ++ pre).map (Value.int .i64))) := by
            intro W3 ht
            have hf3 := turned_fr ht
            have hov : Bk W3 (bt + 1) 40 [.slice oa (O1 ++ pre).length oc] := o1.fr hf3 (fun e9 => by
              have h2 : bt + 1 = wb := e9
              have h5 := HBT.out
              omega)
            have how3 : W3.ownsRow 0 2 1 (.slice oa (O1 ++ pre).length oc) (O1 ++ pre).length ((O1 ++ pre).map (Value.int .i64)) := o2.fr hf3 fun k9 hk9 e9 => by
              have h3 := (o3 k9 hk9).1
              have h5 : k9 = wb := e9
              omega
            rw [hno] at hov how3
            exact ⟨hov.cell 0, hov, how3, how3.alloc _⟩
          rw [hno] at o3 o2
          have HO3 := Lib.hid o3
          have HO2 := Lib.hid o2
          have HNO := Lib.hid hno
          have HG4F : Hid (∀ W3 W4 : World, Bk W3 (bt + 1) 40 [.slice oa no oc] → (W3.alloc (.cells #[.int .i64 e.who] 2)).grownBy W4 (Value.slice oa no oc).ownBlock → Bk W4 (bt + 1) 40 [.slice oa no oc]) := fun W3 W4 hb hg => by
            have hf : Fr (W3.alloc (.cells #[.int .i64 e.who] 2)) W4 (fun k9 => (Value.slice oa no oc).ownBlock = some k9) := (Fr.refl _ _).grown hg fun k9 hk9 _ => hk9
            exact (hb.alloc _).fr hf fun h9 => (o3 _ h9).2.2.1 rfl
          have HON1 : Hid (∀ u ∈ [Value.int .i64 e.who], u.oneCell' = true) := fun u hu => by simp at hu; subst hu; rfl
          have HLO : Hid (no + 1 ≤ 1000000) := by
            have h1 := HOL.out
            have h2 := hgo.len
            have h3 := HDW.out
            have h4 := HN.out
            have : no + 1 ≤ 1000000 := by rw [← hno, List.length_append]; omega
            exact this
          clear hroot he hv2 hj2 hb3 o1 o2 o3 hgo hok2 hq hc hxi hbx3 hWB hww hgl hdsz HJP hsz hno hwbS q2 hww2 hown hMI
          dsimp only
          gi_wp2_with (first
            | (gi_at_delete; refine wpListIn_delete_own _ rfl _ _ 57 2 rfl 30 Tryz.keyI64 Tryz.underlying57 heldR wb _ DM rfl HOWN.out _ _ rfl HKW.out ?_; intro W3 hown3 hturn3; obtain ⟨q3, hov, how3, how4⟩ := HFA.out W3 hturn3; have f3 := hov.free 0; have HOW3 := Lib.hid how4; have HOV := Lib.hid hov; have HOWN3 := Lib.hid hown3; have HT3 := Lib.hid hturn3; have HONE := Lib.hid (one_new W3 e.who); clear hown3 hturn3 hov how3 how4 q0 q1)
            | (gi_at_builtin; refine wpListIn_oper rfl (by intro c h; cases h) fun K hK => ?_; refine wp_app _ _ _ 40 rfl sl64 (.slice oa no oc) rfl HOW3.out _ rfl HONE.out HON1.out HLO.out ?_; intro ga gc W4 ho4 hg4 hb4; refine hK.out _ _ ?_; have HO4 := Lib.hid ho4; have HG4 := Lib.hid hg4; have HB4 := Lib.hid hb4; have hb5 := HG4F.out W3 W4 HOV.out hg4; have q4 : W4.cell? ⟨bt + 1, 0, none⟩ = some (.slice oa no oc) := hb5.cell 0; have f4 := hb5.free 0; have HB5 := Lib.hid hb5; clear ho4 hg4 hb4 hb5 hK))
          have hbt := HBT.out
          have hwbn := HWB.out
          have hwwn := HWW.out
          have hszn := HSZ.out
          obtain ⟨r1, r2, r3⟩ := round_end HYV.out HYJ.out HNO.out HO2.out HS.out (by omega) (by have := HJB.out; omega) (fun k9 hk9 => ⟨(HVS.out k9 hk9).2, (HVS.out k9 hk9).1⟩) HSZ.out (.mk HOWN3.out (HMI.out.del intKey e.who)) (turned_fr HT3.out) HO3.out HO4.out HG4.out HB4.out HB5.out
          have hwbS := HS.out wb HYV.out.inW
          refine ⟨⟨grantL D2 e s, G2, HGO.out.snoc HQ.out HC.out, HOK2.out.grant HQ.out, r1, HXI.out, HBX3.out.fr r3 fun h9 => ?_, ?_, HYB.out.fr r3 fun h9 => ?_⟩, r3.mono fun k9 _ h9 => ?_⟩
          · have := HBXE.out; have := HS1.out
            rcases h9 with h9 | h9 | h9
            · omega
            · have := HJB.out; omega
            · exact row_not_bk HO2.out h9 HBX3.out (by decide)
          · rw [← List.append_assoc]; exact r2
          · rcases h9 with h9 | h9 | h9
            · omega
            · have := HJB.out; omega
            · exact row_not_bk HO2.out h9 HYB.out (by decide)
          · rcases h9 with h9 | h9 | h9
            · constructor <;> omega
            · have := HJB.out; constructor <;> omega
            · exact ⟨(HO3.out k9 h9).2.2.2.1, (HO3.out k9 h9).2.2.2.2⟩
        case done =>
          rintro W' ⟨pre, D2, G2, e1, e2, e3, ⟨g2, e4, e4b⟩, e5, e6⟩ hmk hsz
          have hx2 := e3.at_ _ e4
          have hnx := e5.mark hsz (by omega) hmk
          have hlen := len_map hx2.holds Tryz.underlying72 3
          have q0 : W'.cell? ⟨g.xb, 0, none⟩ = some (.map (some g2.hb)) := by rw [← e4b]; exact hx2.box.cell 0
          have E1 := Lib.hid e1
          have E2 := Lib.hid e2
          have E3 := Lib.hid e3
          have E4 := Lib.hid e4
          have E4B := Lib.hid e4b
          have E6 := Lib.hid e6
          have HX2 := Lib.hid hx2
          have HNX := Lib.hid hnx
          clear e1 e2 e3 e4 e4b e5 e6 hx2 hnx hmk hsz hWB hww hgl hdsz
          have HE : Hid (wokenL D (ss.take (k + 1)) = (O1 ++ pre, D2)) := by
            have : wokenL D (ss.take (k + 1)) = (O1 ++ pre, D2) := by rw [HSN.out, E1.out]
            exact this
          have HFIN : Hid (∀ (W'' : World) (G'' : List (Spot × GX)), LkV W'' lb sb wb D2 (pairsW D2.W) G'' S → Fr W' W'' S → WkAt w lb sb wb D S N bt (.slice (some ⟨b, off, none⟩) ss.length cap) ss (k + 1) (W2.heap.size :: ds) W'') := fun W'' G'' h1 h2 => by
            have e := HE.out
            refine ⟨⟨G'', by rw [e]; exact h1⟩, by rw [e]; exact E2.out, ?_⟩
            rw [e]
            exact (HNX.out.frS h2 (by have := HBT.out; omega) HS.out fun j hj => (HVS.out j hj).1).next h2.size
          have HFEW := Lib.hid (queue_few E2.out s)
          cases hH : holdsOf D2.H s with
          | cons x y =>
            have hl0 : (((holdsOf D2.H s).length : Int) == 0) = false := by rw [hH, beq_eq_false_iff_ne]; simp; omega
            have hl1 : (holdsOf D2.H s).length ≠ 0 := by rw [hH]; simp
            generalize (holdsOf D2.H s).length = nh at hlen hl0 hl1
            clear hH
            gi_wp2
            refine ⟨trivial, ?_⟩
            gi_wp2
            exact ⟨⟨k + 1, W2.heap.size :: ds, _, _, _, _, _, _, _, _, _, _, _, _, _, _, _, _, _, _, _, _, _, _, _, _, _, _, _, _, _, _, _, _, _, _, _, _, _, _, _, _, _, _, _, _, _, rfl, by omega, HFIN.out _ G2 E3.out (Fr.refl _ _)⟩, by simp [intOf]; omega⟩
          | nil =>
            have hl1 : (holdsOf D2.H s).length = 0 := by rw [hH]; rfl
            rw [hl1] at hlen
            have HH := Lib.hid hH
            have cQ := queue_any (HX2.out) (show (prs (upL D2.H D2.W s)).length + (prs (restL D2.H D2.W s)).length ≤ 1000000 by have := HFEW.out; have := HN.out; omega)
            rw [E4B.out, ← prs_queue] at cQ
            clear hH hl1
            gi_wp2
            refine ⟨trivial, ?_⟩
            refine (callsIn_wide.2 cQ).mono ?_
            rintro e' W5 ⟨v5, rfl, h51, h52, h53⟩
            obtain ⟨a5, c5, hv5⟩ := h51.shape
            have HF5 := Lib.hid h53
            clear h51 h52 h53 cQ
            cases hq : queueL D2.H D2.W s with
            | cons x y =>
              have hl2 : (prs (queueL D2.H D2.W s)).length ≠ 0 := by rw [hq]; simp [prs]
              have hl0 : (((prs (queueL D2.H D2.W s)).length : Int) == 0) = false := by rw [beq_eq_false_iff_ne]; omega
              generalize (prs (queueL D2.H D2.W s)).length = nq at hv5 hl0 hl2
              subst hv5
              clear hq
              gi_wp2
              exact ⟨⟨k + 1, W2.heap.size :: ds, _, _, _, _, _, _, _, _, _, _, _, _, _, _, _, _, _, _, _, _, _, _, _, _, _, _, _, _, _, _, _, _, _, _, _, _, _, _, _, _, _, _, _, _, _, rfl, by omega, HFIN.out _ G2 (E3.out.fr0 HF5.out) HF5.out.of_nil⟩, by simp [intOf]; omega⟩
            | nil =>
              have hl2 : (prs (queueL D2.H D2.W s)).length = 0 := by rw [hq]; rfl
              rw [hl2] at hv5
              have HQN := Lib.hid hq
              subst hv5
              clear hq hl2
              gi_wp2
              have hf5 := HF5.out
              have E35 := E3.out.fr0 hf5
              have hb75 : Bk W5 W.heap.size 30 [.int .i64 s.1, .bool s.2.1, .int .i64 s.2.2] := E6.out.fr hf5 fun h => h
              have k0 : ∀ w', KeptN W5 w' → w'.cell? ⟨bt, 0, none⟩ = some (lptr lb) := KeptN.cell ((HNX.out.tb.fr hf5 fun h => h).cell 0)
              have k1 : ∀ w', KeptN W5 w' → w'.cell? ⟨lb, 1, none⟩ = some (.map (some sb)) := KeptN.cell (E35.root.cell 1)
              have k2 : ∀ w', KeptN W5 w' → w'.cell? ⟨W.heap.size, 0, none⟩ = some (.int .i64 s.1) := KeptN.cell (hb75.cell 0)
              have k3 : ∀ w', KeptN W5 w' → w'.cell? ⟨W.heap.size, 1, none⟩ = some (.bool s.2.1) := KeptN.cell (hb75.cell 1)
              have k4 : ∀ w', KeptN W5 w' → w'.cell? ⟨W.heap.size, 2, none⟩ = some (.int .i64 s.2.2) := KeptN.cell (hb75.cell 2)
              refine wpIn_region_sinkW 5 (KeptN W5) (by kernel_rfl) (by kernel_rfl) ?_
              have hSa : KeptN W5 W5.drew := KeptN.start W5
              refine tk 0 hSa ?_ (hy := by intro _ w; have ck0 := k0 _ w; go_simp <;> with_reducible rfl)
              try simp only [Act.put, sA, sB, sC]
              refine tk 1 hSa ?_
              refine tk 2 hSa ?_
              try simp only [Act.put, sA, sB, sC]
              refine tk 3 hSa ?_ (hy := by intro _ w; have ck1 := k1 _ w; go_simp <;> with_reducible rfl)
              try simp only [Act.put, sA, sB, sC]
              refine tk 4 hSa ?_ (hy := by intro _ w; have ck2 := k2 _ w; have ck3 := k3 _ w; have ck4 := k4 _ w; go_simp <;> with_reducible rfl)
              try simp only [Act.put, sA, sB, sC]
              obtain ⟨W6, hdel, hm6, hf6⟩ := del_spot (E35.fr0 hSa.fr).spots HWS.out 0
              refine wpAnyS_last (i := 5) rfl (by kernel_rfl) (by decide) (by kernel_rfl) (by rfl) fun K hK => ?_
              refine wp_del_run _ _ _ _ rfl _ _ rfl rfl hdel ?_
              refine hK.out _ _ ?_
              clear hK K
              have hqq : upL D2.H D2.W s = [] ∧ restL D2.H D2.W s = [] := by
                have h1 := HQN.out
                unfold queueL at h1
                exact List.append_eq_nil_iff.1 h1
              have hv6 : LkV W6 lb sb wb D2 (pairsW D2.W) (G2.filter fun p => !decide (p.1 = s)) S := LkG.drop (E35.fr0 hSa.fr) hm6 hf6 ⟨HH.out, by rw [hqq.1]; rfl, by rw [hqq.2]; rfl⟩
              have hfw : Fr W' W6 S := ((hf5.trans0 hSa.fr).of_nil (S := S)).trans hf6 fun j _ e => by rw [e]; exact E3.out.inS
              have HNX6 := Lib.hid (HFIN.out W6 _ hv6 hfw)
              clear hSa k0 k1 k2 k3 k4 hdel hm6 hf6 hqq hv6 hfw hf5 E35 hb75
              dsimp only [OnlyEnd]
              gi_wp2
              exact ⟨⟨k + 1, W2.heap.size :: ds, _, _, _, _, _, _, _, _, _, _, _, _, _, _, _, _, _, _, _, _, _, _, _, _, _, _, _, _, _, _, _, _, _, _, _, _, _, _, _, _, _, _, _, _, _, rfl, by omega, HNX6.out⟩, by simp [intOf]; omega⟩
      · have hno : ∀ p ∈ G1, p.1 ≠ s := fun p hp e => hin ⟨p.2, by rw [← e]; exact hp⟩
        have k5 : ∀ w', KeptN W1 w' → (Instr.lookup 56 (.map (some sb)) (.agg #[.int .i64 s.1, .bool s.2.1, .int .i64 s.2.2]) false).run Tryz.prog w' = .ok (.pointer none) w' := fun w' hk' => look_spot_out (hv2.fr0 hk').spots hws hno
        have HQ : Hid (queueL D1.H D1.W s = []) := by
          obtain ⟨_, g2, g3⟩ := hv1.gone s hno
          have : queueL D1.H D1.W s = [] := by
            unfold queueL
            have e2 : upL D1.H D1.W s = [] := List.map_eq_nil_iff.1 g2
            have e3 : restL D1.H D1.W s = [] := List.map_eq_nil_iff.1 g3
            rw [e2, e3]; rfl
          exact this
        clear hv1 hok hj hws hcl hgt hf1 hb7 hs1 hv2 hin hno hD1 hO1
        gi_wp2
        refine wpIn_region_sinkW 6 (KeptN W1) (by kernel_rfl) (by kernel_rfl) ?_
        have hSa : KeptN W1 W1.drew := KeptN.start W1
        refine tk 0 hSa ?_ (hy := by intro _ w; have ck0 := k0 _ w; go_simp <;> with_reducible rfl)
        try simp only [Act.put, sA, sB, sC]
        refine tk 1 hSa ?_
        refine tk 2 hSa ?_
        try simp only [Act.put, sA, sB, sC]
        refine tk 3 hSa ?_ (hy := by intro _ w; have ck1 := k1 _ w; go_simp <;> with_reducible rfl)
        try simp only [Act.put, sA, sB, sC]
        refine tk 4 hSa ?_ (hy := by intro _ w; have ck2 := k2 _ w; have ck3 := k3 _ w; have ck4 := k4 _ w; go_simp <;> with_reducible rfl)
        try simp only [Act.put, sA, sB, sC]
        refine tk 5 hSa ?_ (hy := by intro _ w; have ck5 := k5 _ w; go_simp <;> with_reducible rfl)
        try simp only [Act.put, sA, sB, sC]
        refine wpAnyS_last (i := 6) rfl (by kernel_rfl) (by decide) (by kernel_rfl) (by rfl) fun K hK => ?_
        go_simp
        refine hK.out _ _ ?_
        clear hK K
        have HF2 := Lib.hid (HF1.out.trans0 hSa)
        clear hSa k0 k1 k2 k3 k4 k5 p0 p1 p2
        dsimp only [OnlyEnd]
        gi_wp2
        have HNX : Hid (WkAt w lb sb wb D S N bt (.slice (some ⟨b, off, none⟩) ss.length cap) ss (k + 1) ds W1.drew) := by
          have hr := regrantL_gone HQ.out D1.W.length
          have e := HSN.out
          rw [hr, List.append_nil] at e
          have hf := HF2.out
          have : WkAt w lb sb wb D S N bt (.slice (some ⟨b, off, none⟩) ss.length cap) ss (k + 1) ds W1.drew := ⟨⟨G1, by rw [e]; exact HV1.out.fr0 hf⟩, by rw [e]; exact HOK.out, by
            rw [e]
            exact (HJ1.out.fr0 hf).next hf.size⟩
          exact this
        exact ⟨⟨k + 1, ds, _, _, _, _, _, _, _, _, _, _, _, _, _, _, _, _, _, _, _, _, _, _, _, _, _, _, _, _, _, _, _, _, _, _, _, _, _, _, _, _, _, _, _, _, _, rfl, by omega, HNX.out⟩, by simp [intOf]; omega⟩
    · obtain rfl : k = ss.length := by omega
      obtain ⟨ov, o1, o2, o3⟩ := HWK.out.j.out
      have q0 : W.cell? ⟨bt + 1, 0, none⟩ = some ov := o1.cell 0
      obtain ⟨oa, oc, rfl⟩ := o2.shape
      have HO2 := Lib.hid o2
      have HO3 := Lib.hid o3
      clear o1 o2 o3
      gi_wp2
      refine leaves_marks (F := Fence.wide) ds W HWK.out.j.nodup HWK.out.j.marks fun W' hf => ⟨_, results_tmp rfl _ _ _, ?_⟩
      have hd : ∀ k, k ∈ ds → w.heap.size ≤ k := fun k hk => (HWK.out.j.dnew k hk).1
      obtain ⟨G1, hv1⟩ := HWK.out.at_
      have hok := HWK.out.ok
      rw [List.take_length] at hv1 hok HO2 HO3
      refine ⟨_, G1, rfl, HO2.out.fr hf fun k hk hm => ?_, fun k hk => (HO3.out k hk).1, hv1.fr hf fun k hk hm => ?_, hok, HWK.out.j.fr.trans hf fun k hk hm => ?_⟩
      · obtain ⟨c, hc⟩ := row_ty HO2.out hk
        have := HWK.out.j.marks k hm
        rw [hc] at this; cases this
      · have := hd k hm; have := HS.out k hk; omega
      · have := hd k hm; omega
end Go.Proofs.YtokeciekncincabGreat
namespace Go.Proofs.YtokeciekncincabGreat
open Go Go.RowKit Go.Maps

section
variable {w w' : World} {lb sb wb : Nat} {D : LkS} {V : List (Int × Spot)} {G : List (Spot × GX)} {S : Nat → Prop}
/-- Who does not wait gives a spot up. -/
theorem LkV.unhold {s : Spot} {g : GX} {who : Int} (h : LkV w lb sb wb D V G S) (hn : ∀ e ∈ D.W, e.who ≠ who) (hg : (s, g) ∈ G) (hm : MapAt Tryz.prog 2 ikey modV w' g.hb ((holdsOf D.H s).filter fun p => !decide (p.1 = who))) (hf : Fr w w' (fun k => k = g.hb)) :
    ∃ G', LkV w' lb sb wb { D with H := dropS D.H who s } V G' S ∧ ∀ s', (∃ g, (s', g) ∈ G) → ∃ g, (s', g) ∈ G' := by
  have hx := h.at_ _ hg
  have hf2 : Fr w w' g.own := hf.mono fun k _ e => .inr (.inl e)
  have hx' : XAt w' g (holdsOf (dropS D.H who s) s) (prs (upL (dropS D.H who s) D.W s)) (prs (restL (dropS D.H who s) D.W s)) := by
    rw [holdsOf_dropS, upL_drop hn, restL_drop hn]
    exact ⟨hx.box.fr hf (fun e => hx.xh e), hm, hx.up.fr hf (fun k hk e => hx.uh (by rw [← e]; exact hk)), hx.rest.fr hf (fun k hk e => hx.rh (by rw [← e]; exact hk)), hx.far⟩
  have h1 := LkG.turn (h' := holdsOf (dropS D.H who s)) (u' := fun s' => prs (upL (dropS D.H who s) D.W s')) (r' := fun s' => prs (restL (dropS D.H who s) D.W s')) h hg (g' := g) rfl hx' hf2 (fun k hk => .inl hk) (fun s' hs' => ⟨holdsOf_dropS_ne _ _ hs', by rw [upL_drop hn], by rw [restL_drop hn]⟩)
  have h2 := h1.more (T := S) (fun k hk => hk.elim id fun hk => h.inX _ hg k hk) fun k hk => Nat.lt_of_lt_of_le (h.lt k hk) hf.size
  refine ⟨_, h2, fun s' ⟨g2, hg2⟩ => ?_⟩
  by_cases e : s' = s
  · exact ⟨g, List.mem_map.2 ⟨(s, g), hg, by rw [if_pos rfl, e]⟩⟩
  · exact ⟨g2, List.mem_map.2 ⟨(s', g2), hg2, if_neg e⟩⟩
end
theorem DOk.unhold {N : Nat} {D : LkS} (h : DOk N D) (who : Int) (s : Spot) : DOk N { D with H := dropS D.H who s } := by
  refine ⟨drop_inv h.inv who s, ?_, ⟨fun e he => h.wf.1 e (List.mem_filter.1 he).1, h.wf.2⟩⟩
  have h1 : (dropS D.H who s).length ≤ D.H.length := List.length_filter_le _ _
  have := h.few
  show (dropS D.H who s).length + D.W.length ≤ N
  omega
theorem DOk.unwait {N : Nat} {D : LkS} (h : DOk N D) (who : Int) : DOk N { D with W := dropA D.W who } := by
  refine ⟨dropA_inv h.inv who, ?_, ⟨h.wf.1, fun e he => h.wf.2 e (List.mem_filter.1 he).1⟩⟩
  have h1 : (dropA D.W who).length ≤ D.W.length := List.length_filter_le _ _
  have := h.few
  show D.H.length + (dropA D.W who).length ≤ N
  omega
/-- Numbers in a row of the call's own, and an error; the table as it is then. -/
def FreeRet (lb : Nat) (N : Nat) (R : (List Int × Int) × LkS) (S : Nat → Prop) (w : World) (e : Ending) (w' : World) : Prop :=
  ∃ ov, e = .returned (.tuple #[ov, .int .i64 R.1.2]) ∧ OwnInts w' 2 ov R.1.1 ∧ (∀ k, ov.ownBlock = some k → w.heap.size ≤ k) ∧ LkA w' lb R.2 S ∧ DOk N R.2 ∧ Fr w w' S
theorem held_in {w : World} {lb sb wb : Nat} {D : LkS} {V : List (Int × Spot)} {G : List (Spot × GX)} {S : Nat → Prop} (h : LkV w lb sb wb D V G S) {who : Int} {s : Spot} (h0 : heldL D.H who s ≠ 0) : ∃ g, (s, g) ∈ G := by
  apply Classical.byContradiction
  intro hn
  exact h0 (held_gone (h.gone s fun p hp e => hn ⟨p.2, by rw [← e]; exact hp⟩).1 who)
set_option maxRecDepth 100000 in
set_option maxHeartbeats 4000000 in
theorem free_any {lb : Nat} {D : LkS} {S : Nat → Prop} {N : Nat} (who : Int) (s : Spot) (w : World) (h : LkA w lb D S) (hD : DOk N D) (hN : N ≤ 100000) (hw : (Lit.int .i64 who).wf = true) (hs : SWf s) :
    Calls Tryz.prog 12 #[lkp lb, .int .i64 who, spV s] w (FreeRet lb N (freeL D who s) S w) := by
  obtain ⟨sb, wb, G, hv⟩ := h
  obtain ⟨w0, hw0⟩ : ∃ w0, w.alloc (.cells #[.int .i64 s.1, .bool s.2.1, .int .i64 s.2.2] 30) = w0 := ⟨_, rfl⟩
  have hf0 : Fr w w0 Nil := by rw [← hw0]; exact (Fr.refl w Nil).alloc _
  have hb5 : Bk w0 w.heap.size 30 [.int .i64 s.1, .bool s.2.1, .int .i64 s.2.2] := by rw [← hw0]; exact Bk.new w _ _
  have hv0 := hv.fr0 hf0
  have hlk := look_wait hv0.waits hw
  have q2 : w0.cell? ⟨lb, 2, none⟩ = some (.map (some wb)) := hv0.root.cell 2
  have HV := Lib.hid hv
  have HF0 := Lib.hid hf0
  have HB5 := Lib.hid hb5
  have HD := Lib.hid hD
  have HW := Lib.hid hw
  have HN := Lib.hid hN
  have HSW := Lib.hid hs
  cases hwi : wishL D.W who with
  | some x =>
    have hfl : freeL D who s = (([], 4), D) := by unfold freeL; rw [hwi]; rfl
    rw [hfl]
    have hc := (wish_pairs (W := D.W) (who := who)).2 x hwi
    rw [hc.1] at hlk
    obtain ⟨gv, hgv⟩ : ∃ x, getV (pairsW D.W) who (0, false, 0) = x := ⟨_, rfl⟩
    rw [hgv] at hlk
    clear hv hf0 hv0 hb5 hD hw hN hwi hc hgv hfl hs
    go_enter Tryz.func12, Tryz.ntmps12
    go_wp2_with fail
    go_ret2
    exact ⟨_, rfl, World.ownsRow_nil _ _ _ _, (fun k hk => by cases hk), ⟨sb, wb, G, HV.out.fr0 (HF0.out.alloc _)⟩, HD.out, (HF0.out.alloc _).of_nil⟩
  | none =>
    have hnw := wish_none hwi
    have hc := (wish_pairs (W := D.W) (who := who)).1 hwi
    rw [hc] at hlk
    obtain ⟨gv, hgv⟩ : ∃ x, getV (pairsW D.W) who (0, false, 0) = x := ⟨_, rfl⟩
    rw [hgv] at hlk
    have HWI := Lib.hid hwi
    have HNW := Lib.hid hnw
    obtain ⟨w1, hw1⟩ : ∃ w1, w0.alloc (.cells #[.int .i64 gv.1, .bool gv.2.1, .int .i64 gv.2.2] 30) = w1 := ⟨_, rfl⟩
    have hf1 : Fr w0 w1 Nil := by rw [← hw1]; exact (Fr.refl w0 Nil).alloc _
    have hb51 := hb5.fr hf1 (fun h => h)
    have r0 : w1.cell? ⟨w.heap.size, 0, none⟩ = some (.int .i64 s.1) := hb51.cell 0
    have r1 : w1.cell? ⟨w.heap.size, 1, none⟩ = some (.bool s.2.1) := hb51.cell 1
    have r2 : w1.cell? ⟨w.heap.size, 2, none⟩ = some (.int .i64 s.2.2) := hb51.cell 2
    have HF1 := Lib.hid hf1
    have cH := held_any (lb := lb) (D := D) (S := S) who s w1 ⟨sb, wb, G, hv0.fr0 hf1⟩ hw hs
    obtain ⟨hd, hhd⟩ : ∃ x, heldL D.H who s = x := ⟨_, rfl⟩
    rw [hhd] at cH
    by_cases h0 : hd = 0
    · have hfl : freeL D who s = (([], 5), D) := by unfold freeL; rw [hwi, hhd, if_neg (by simp), if_pos h0]
      rw [hfl]
      have h0' : (hd == 0) = true := by rw [beq_iff_eq]; exact h0
      subst h0
      clear hv hf0 hv0 hb5 hD hw hN hwi hc hgv hfl hs hb51 hf1 hnw hhd
      go_enter Tryz.func12, Tryz.ntmps12
      go_wp2_with fail
      refine cH.mono ?_
      rintro e w2 ⟨rfl, hf2⟩
      have HF2 := Lib.hid (HF1.out.trans0 hf2)
      clear cH hf2 r0 r1 r2 q2 hlk
      go_wp2_with fail
      go_ret2
      have hfw := HF0.out.trans0 HF2.out
      exact ⟨_, rfl, World.ownsRow_nil _ _ _ _, (fun k hk => by cases hk), ⟨sb, wb, G, HV.out.fr0 hfw⟩, HD.out, hfw.of_nil⟩
    · have hfl : freeL D who s = (((wokenL { D with H := dropS D.H who s } [s]).1, 0), (wokenL { D with H := dropS D.H who s } [s]).2) := by unfold freeL; rw [hwi, hhd, if_neg (by simp), if_neg h0]
      rw [hfl]
      have h0' : (hd == 0) = false := by rw [beq_eq_false_iff_ne]; exact h0
      obtain ⟨g, hg⟩ := held_in hv (who := who) (s := s) (by rw [hhd]; exact h0)
      have HG := Lib.hid hg
      clear hv hf0 hv0 hb5 hD hw hN hwi hc hgv hfl hs hb51 hf1 hnw hhd hg
      go_enter Tryz.func12, Tryz.ntmps12
      go_wp2_with fail
      refine cH.mono ?_
      rintro e w2 ⟨rfl, hf2⟩
      have hfw2 := (HF0.out.trans0 HF1.out).trans0 hf2
      have hv2 := HV.out.fr0 hfw2
      have hb52 := HB5.out.fr (HF1.out.trans0 hf2) (fun h => h)
      have hx2 := hv2.at_ _ HG.out
      have k1 : ∀ w', KeptN w2 w' → w'.cell? ⟨lb, 1, none⟩ = some (.map (some sb)) := KeptN.cell (hv2.root.cell 1)
      have k2 : ∀ w', KeptN w2 w' → w'.cell? ⟨w.heap.size, 0, none⟩ = some (.int .i64 s.1) := KeptN.cell (hb52.cell 0)
      have k3 : ∀ w', KeptN w2 w' → w'.cell? ⟨w.heap.size, 1, none⟩ = some (.bool s.2.1) := KeptN.cell (hb52.cell 1)
      have k4 : ∀ w', KeptN w2 w' → w'.cell? ⟨w.heap.size, 2, none⟩ = some (.int .i64 s.2.2) := KeptN.cell (hb52.cell 2)
      have k5 : ∀ w', KeptN w2 w' → (Instr.lookup 56 (.map (some sb)) (.agg #[.int .i64 s.1, .bool s.2.1, .int .i64 s.2.2]) false).run Tryz.prog w' = .ok (xptr g.xb) w' := fun w' hk' => look_spot_in (hv2.fr0 hk').spots HSW.out HG.out
      have k6 : ∀ w', KeptN w2 w' → w'.cell? ⟨g.xb, 0, none⟩ = some (.map (some g.hb)) := KeptN.cell (hx2.box.cell 0)
      have HV2 := Lib.hid hv2
      have HB52 := Lib.hid hb52
      have HFW2 := Lib.hid hfw2
      clear cH hf2 r0 r1 r2 q2 hlk hfw2 hv2 hb52 hx2 h0
      go_wp2_with fail
      refine wp_region_sink 10 (KeptN w2) (by kernel_rfl) ?_
      have hSa : KeptN w2 w2.drew := KeptN.start w2
      refine tk 0 hSa ?_
      refine tk 1 hSa ?_
      refine tk 2 hSa ?_
      try simp only [Act.put, sA, sB, sC]
      refine tk 3 hSa ?_ (hy := by intro _ w; have ck1 := k1 _ w; go_simp <;> with_reducible rfl)
      try simp only [Act.put, sA, sB, sC]
      refine tk 4 hSa ?_ (hy := by intro _ w; have ck2 := k2 _ w; have ck3 := k3 _ w; have ck4 := k4 _ w; go_simp <;> with_reducible rfl)
      try simp only [Act.put, sA, sB, sC]
      refine tk 5 hSa ?_ (hy := by intro _ w; have ck5 := k5 _ w; go_simp <;> with_reducible rfl)
      try simp only [Act.put, sA, sB, sC]
      refine tk 6 hSa ?_
      refine tk 7 hSa ?_
      try simp only [Act.put, sA, sB, sC]
      refine tk 8 hSa ?_ (hy := by intro _ w; have ck6 := k6 _ w; go_simp <;> with_reducible rfl)
      try simp only [Act.put, sA, sB, sC]
      refine tk 9 hSa ?_
      try simp only [Act.put, sA, sB, sC]
      have hvd := HV2.out.fr0 hSa.fr
      obtain ⟨w3, hdel, hm3, hf3⟩ := del_held (hvd.at_ _ HG.out).holds HW.out 0
      refine wpAnyS_last (i := 10) rfl (by kernel_rfl) (by decide) (by kernel_rfl) (by rfl) fun K hK => ?_
      refine wp_del_run _ _ _ _ rfl _ _ rfl rfl hdel ?_
      refine hK.out _ _ ?_
      clear hK K
      obtain ⟨G', hv3, _⟩ := LkV.unhold hvd HNW.out HG.out hm3 hf3
      have hgS : S g.hb := hvd.inX _ HG.out _ (.inr (.inl rfl))
      have hfw3 : Fr w w3 S := ((HFW2.out.trans0 hSa.fr).of_nil (S := S)).trans hf3 fun k _ e => by rw [e]; exact hgS
      have hb53 : Bk w3 w.heap.size 30 [.int .i64 s.1, .bool s.2.1, .int .i64 s.2.2] := (HB52.out.fr hSa.fr fun h => h).fr hf3 fun e => by have e2 : w.heap.size = g.hb := e; have := HV.out.lt _ hgS; omega
      have r0 : w3.cell? ⟨w.heap.size, 0, none⟩ = some (.int .i64 s.1) := hb53.cell 0
      have r1 : w3.cell? ⟨w.heap.size, 1, none⟩ = some (.bool s.2.1) := hb53.cell 1
      have r2 : w3.cell? ⟨w.heap.size, 2, none⟩ = some (.int .i64 s.2.2) := hb53.cell 2
      obtain ⟨w4, hw4⟩ : ∃ w4, w3.alloc (.cells #[.int .i64 s.1, .bool s.2.1, .int .i64 s.2.2] 30) = w4 := ⟨_, rfl⟩
      have hf4 : Fr w3 w4 Nil := by rw [← hw4]; exact (Fr.refl w3 Nil).alloc _
      have hsl : SlAt w4 3 (.slice (some ⟨w3.heap.size, 0, none⟩) 1 1) 1 (sp3 s) := by
        rw [← hw4]
        refine ⟨rfl, .inr ⟨⟨w3.heap.size, 0, none⟩, 1, rfl, fun k u hu => ?_⟩⟩
        have h1 := (Bk.new w3 30 #[.int .i64 s.1, .bool s.2.1, .int .i64 s.2.2]).cell k
        rw [Addr.add_lit, Nat.zero_add, h1]
        exact hu
      have hsz4 : w4.heap.size = w3.heap.size + 1 := by rw [← hw4]; simp
      have hww := hfw3.size
      have cW := woken_any (ss := [s]) (N := N) HN.out (hv3.fr0 hf4) (HD.out.unhold who s) (v := .slice (some ⟨w3.heap.size, 0, none⟩) 1 1) (by simpa using hsl) (fun k hk => by
        have hk2 : w3.heap.size = k := Option.some.inj hk
        subst hk2
        refine ⟨fun h => ?_, by omega⟩
        have := HV.out.lt _ h
        omega) (fun s' hs' => by rw [List.mem_singleton] at hs'; subst hs'; exact HSW.out) (by simp)
      have HFW3 := Lib.hid hfw3
      have HF4 := Lib.hid hf4
      clear hSa k1 k2 k3 k4 k5 k6 hdel hm3 hf3 hv3 hgS hfw3 hb53 hf4 hsl hsz4 hww hvd
      go_wp2_with fail
      refine cW.mono ?_
      rintro e w5 ⟨ov, G5, rfl, o1, o2, o3, o4, o5⟩
      obtain ⟨oa, oc, rfl⟩ := o1.shape
      have O1 := Lib.hid o1
      have O2 := Lib.hid o2
      have O3 := Lib.hid o3
      have O4 := Lib.hid o4
      have O5 := Lib.hid o5
      clear o1 o2 o3 o4 o5 cW r0 r1 r2
      go_wp2_with fail
      go_ret2
      refine ⟨_, rfl, O1.out, fun k hk => ?_, ⟨sb, wb, G5, O3.out⟩, O4.out, (HFW3.out.trans (HF4.out.of_nil (S := S)) fun _ _ h => h).trans O5.out fun _ _ h => h⟩
      have := O2.out k hk
      have := HFW3.out.size
      have := HF4.out.size
      omega
end Go.Proofs.YtokeciekncincabGreat
namespace Go.Proofs.YtokeciekncincabGreat
open Go Go.RowKit Go.Maps

theorem upL_snoc (H W : List LkE) (e : LkE) (s : Spot) : upL H (W ++ [e]) s = upL H W s ++ if e.s = s ∧ heldL H e.who s ≠ 0 then [e] else [] := by
  unfold upL
  rw [List.filter_append]
  refine congrArg _ ?_
  by_cases h1 : e.s = s <;> by_cases h2 : heldL H e.who s = 0 <;> simp [h1, h2]
theorem restL_snoc (H W : List LkE) (e : LkE) (s : Spot) : restL H (W ++ [e]) s = restL H W s ++ if e.s = s ∧ heldL H e.who s = 0 then [e] else [] := by
  unfold restL
  rw [List.filter_append]
  refine congrArg _ ?_
  by_cases h1 : e.s = s <;> by_cases h2 : heldL H e.who s = 0 <;> simp [h1, h2]
theorem pairsW_snoc {W : List LkE} {who : Int} (hn : ∀ e ∈ W, e.who ≠ who) (s : Spot) (m : Int) : ((pairsW W).filter fun p => !decide (p.1 = who)) ++ [(who, s)] = pairsW (W ++ [⟨s, who, m⟩]) := by
  rw [← pairsW_drop]
  have : dropA W who = W := List.filter_eq_self.2 fun e he => by simpa using hn e he
  rw [this]
  unfold pairsW
  rw [List.map_append]
  rfl
theorem DOk.ask {N : Nat} {D : LkS} (h : DOk N D) {who : Int} {s : Spot} (m : Int) (hw : (Lit.int .i64 who).wf = true) (hs : SWf s) : DOk (N + 1) (askL D who s m).2 := by
  refine ⟨askL_inv h.inv who s m, ?_, all_ask h.wf who s m fun _ => ⟨hw, hs⟩⟩
  have h3 := h.few
  have h1 : ∀ j, (putH D.H who s j).length ≤ D.H.length + 1 := fun j => putH_le D.H who j s
  unfold askL
  repeat' split
  · show D.H.length + D.W.length ≤ N + 1; omega
  · show D.H.length + D.W.length ≤ N + 1; omega
  · show D.H.length + D.W.length ≤ N + 1; omega
  · show D.H.length + D.W.length ≤ N + 1; omega
  · have := h1 (joinM (heldL D.H who s) m)
    show (putH D.H who s (joinM (heldL D.H who s) m)).length + D.W.length ≤ N + 1
    omega
  · show D.H.length + (D.W ++ [_]).length ≤ N + 1
    rw [List.length_append, List.length_singleton]
    omega
/-- At most so many. -/
def Few (S : Nat → Prop) (K : Nat) : Prop := ∃ l : List Nat, l.length ≤ K ∧ ∀ k, S k → k ∈ l
theorem Few.sub {S T : Nat → Prop} {K : Nat} (h : Few S K) (hs : ∀ k, T k → S k) : Few T K := by
  obtain ⟨l, h1, h2⟩ := h
  exact ⟨l, h1, fun k hk => h2 k (hs k hk)⟩
theorem Few.more {S : Nat → Prop} {K K' : Nat} (h : Few S K) (hk : K ≤ K') : Few S K' := by
  obtain ⟨l, h1, h2⟩ := h
  exact ⟨l, Nat.le_trans h1 hk, h2⟩
theorem Few.one {S : Nat → Prop} {K : Nat} (h : Few S K) (a : Nat) : Few (fun k => S k ∨ k = a) (K + 1) := by
  obtain ⟨l, h1, h2⟩ := h
  refine ⟨a :: l, by simpa using h1, fun k hk => ?_⟩
  rcases hk with hk | rfl
  · exact List.mem_cons_of_mem _ (h2 k hk)
  · exact List.mem_cons_self
theorem Few.opt {S : Nat → Prop} {K : Nat} (h : Few S K) (o : Option Nat) : Few (fun k => S k ∨ o = some k) (K + 1) := by
  cases o with
  | none => exact (h.more (Nat.le_succ K)).sub fun k hk => hk.elim id fun h => by cases h
  | some a => exact (h.one a).sub fun k hk => hk.imp id fun h => (Option.some.inj h).symm
theorem nodup_le {l1 : List Nat} (h : l1.Nodup) : ∀ {l2 : List Nat}, (∀ x ∈ l1, x ∈ l2) → l1.length ≤ l2.length := by
  induction l1 with
  | nil => intro _ _; exact Nat.zero_le _
  | cons a t ih =>
    intro l2 hs
    rw [List.nodup_cons] at h
    have ha := hs a List.mem_cons_self
    have h1 := ih h.2 (l2 := l2.erase a) fun x hx => (List.mem_erase_of_ne fun e => h.1 (by rw [← e]; exact hx)).2 (hs x (List.mem_cons_of_mem _ hx))
    rw [List.length_erase_of_mem ha] at h1
    have h2 := List.length_pos_of_mem ha
    rw [List.length_cons]
    omega
section
variable {w w' : World} {lb sb wb : Nat} {D : LkS} {V : List (Int × Spot)} {G : List (Spot × GX)} {S : Nat → Prop}
/-- A spot is had at once. -/
theorem LkV.have_ {s : Spot} {g : GX} {who m : Int} (h : LkV w lb sb wb D V G S) (hn : ∀ e ∈ D.W, e.who ≠ who) (hg : (s, g) ∈ G) (hm : MapAt Tryz.prog 2 ikey modV w' g.hb (((holdsOf D.H s).filter fun p => !decide (p.1 = who)) ++ [(who, m)])) (hf : Fr w w' (fun k => k = g.hb)) :
    ∃ G', LkV w' lb sb wb { D with H := putH D.H who s m } V G' S := by
  have hx := h.at_ _ hg
  have hf2 : Fr w w' g.own := hf.mono fun k _ e => .inr (.inl e)
  have hx' : XAt w' g (holdsOf (putH D.H who s m) s) (prs (upL (putH D.H who s m) D.W s)) (prs (restL (putH D.H who s m) D.W s)) := by
    rw [holdsOf_putH, upL_put hn, restL_put hn]
    exact ⟨hx.box.fr hf (fun e => hx.xh e), hm, hx.up.fr hf (fun k hk e => hx.uh (by rw [← e]; exact hk)), hx.rest.fr hf (fun k hk e => hx.rh (by rw [← e]; exact hk)), hx.far⟩
  have h1 := LkG.turn (h' := holdsOf (putH D.H who s m)) (u' := fun s' => prs (upL (putH D.H who s m) D.W s')) (r' := fun s' => prs (restL (putH D.H who s m) D.W s')) h hg (g' := g) rfl hx' hf2 (fun k hk => .inl hk) (fun s' hs' => ⟨holdsOf_putH_ne _ _ _ hs', by rw [upL_put hn], by rw [restL_put hn]⟩)
  exact ⟨_, h1.more (T := S) (fun k hk => hk.elim id fun hk => h.inX _ hg k hk) fun k hk => Nat.lt_of_lt_of_le (h.lt k hk) hf.size⟩
/-- A wish is put into the line of its spot; who waits is not yet told. -/
theorem LkV.line {s : Spot} {g : GX} {who m : Int} {uv rv : Value} (h : LkV w lb sb wb D V G S) (hg : (s, g) ∈ G) (hbox : Bk w' g.xb 74 [.map (some g.hb), uv, rv])
    (hu : OwnH w' uv (prs (upL D.H (D.W ++ [⟨s, who, m⟩]) s))) (hr : OwnH w' rv (prs (restL D.H (D.W ++ [⟨s, who, m⟩]) s))) (hu2 : ∀ k, uv.ownBlock = some k → g.own k ∨ w.heap.size ≤ k) (hr2 : ∀ k, rv.ownBlock = some k → g.own k ∨ w.heap.size ≤ k)
    (far : ∀ k, uv.ownBlock = some k → rv.ownBlock ≠ some k) (hm : MapAt Tryz.prog 2 ikey modV w' g.hb (holdsOf D.H s)) (hf : Fr w w' g.own) :
    ∃ G' S', LkV w' lb sb wb { D with W := D.W ++ [⟨s, who, m⟩] } V G' S' ∧ (∀ k, S k → S' k) ∧ (∀ k, S' k → S k ∨ w.heap.size ≤ k) ∧ ∀ K, Few S K → Few S' (K + 2) := by
  have hx' : XAt w' ⟨g.xb, g.hb, uv, rv⟩ (holdsOf D.H s) (prs (upL D.H (D.W ++ [⟨s, who, m⟩]) s)) (prs (restL D.H (D.W ++ [⟨s, who, m⟩]) s)) := ⟨hbox, hm, hu, hr, far⟩
  have hown : ∀ k, (⟨g.xb, g.hb, uv, rv⟩ : GX).own k → g.own k ∨ w.heap.size ≤ k := by
    rintro k (rfl | rfl | hk | hk)
    · exact .inl (.inl rfl)
    · exact .inl (.inr (.inl rfl))
    · exact hu2 k hk
    · exact hr2 k hk
  have h1 := LkG.turn (h' := holdsOf D.H) (u' := fun s' => prs (upL D.H (D.W ++ [⟨s, who, m⟩]) s')) (r' := fun s' => prs (restL D.H (D.W ++ [⟨s, who, m⟩]) s')) h hg (g' := ⟨g.xb, g.hb, uv, rv⟩) rfl hx' hf hown (fun s' hs' => by
    refine ⟨rfl, ?_, ?_⟩
    · show prs (upL D.H (D.W ++ [⟨s, who, m⟩]) s') = _
      rw [upL_snoc, if_neg (fun e => hs' e.1.symm), List.append_nil]
    · show prs (restL D.H (D.W ++ [⟨s, who, m⟩]) s') = _
      rw [restL_snoc, if_neg (fun e => hs' e.1.symm), List.append_nil])
  refine ⟨_, _, h1, fun k hk => .inl hk, fun k hk => hk.elim .inl fun hk => (hown k hk).imp (fun hk => h.inX _ hg k hk) id, fun K hK => (hK.opt uv.ownBlock).opt rv.ownBlock |>.sub fun k hk => ?_⟩
  rcases hk with hk | rfl | rfl | hk | hk
  · exact .inl (.inl hk)
  · exact .inl (.inl (h.inX _ hg _ (.inl rfl)))
  · exact .inl (.inl (h.inX _ hg _ (.inr (.inl rfl))))
  · exact .inl (.inr hk)
  · exact .inr hk
/-- No more spots than blocks. -/
theorem LkV.few (h : LkV w lb sb wb D V G S) {K : Nat} (hS : Few S K) : G.length ≤ K := by
  obtain ⟨l, hl, hin⟩ := hS
  have h1 : (G.map fun p => p.2.xb).Nodup := by
    have hn := h.spots.nodup
    unfold List.Nodup at hn ⊢
    rw [List.pairwise_map] at hn ⊢
    exact hn.imp_of_mem fun {a b} ha hb hne e => h.apart a ha b hb hne a.2.xb (.inl rfl) (.inl e)
  have h2 := nodup_le h1 (l2 := l) fun x hx => by
    obtain ⟨p, hp, rfl⟩ := List.mem_map.1 hx
    exact hin _ (h.inX p hp _ (.inl rfl))
  rw [List.length_map] at h2
  omega
/-- .. behind its operations. -/
theorem LkV.lineUp {s : Spot} {g : GX} {who m : Int} {v : Value} (h : LkV w lb sb wb D V G S) (hg : (s, g) ∈ G) (h0 : heldL D.H who s ≠ 0) (hv : OwnH w' v (prs (upL D.H D.W s) ++ [(who, m)])) (hf : Fr w w' (fun k => g.uv.ownBlock = some k)) (hb : ∀ k, v.ownBlock = some k → g.uv.ownBlock = some k ∨ w.heap.size ≤ k) :
    Fr w (w'.setCell ⟨g.xb, 1, none⟩ v) g.own ∧ ∃ G' S', LkV (w'.setCell ⟨g.xb, 1, none⟩ v) lb sb wb { D with W := D.W ++ [⟨s, who, m⟩] } V G' S' ∧ (∀ k, S k → S' k) ∧ (∀ k, S' k → S k ∨ w.heap.size ≤ k) ∧ ∀ K, Few S K → Few S' (K + 2) := by
  have hx := h.at_ _ hg
  have hs : Fr w' (w'.setCell ⟨g.xb, 1, none⟩ v) (fun k => k = g.xb) := Fr.store _ _ _ _
  have hfw : Fr w (w'.setCell ⟨g.xb, 1, none⟩ v) g.own := (hf.mono fun k _ hk => .inr (.inr (.inl hk))).trans hs fun k _ e => .inl e
  have hbox : Bk (w'.setCell ⟨g.xb, 1, none⟩ v) g.xb 74 [.map (some g.hb), v, g.rv] := (hx.box.fr hf fun e => hx.ux e).set 1 v
  have hlx : g.xb < w.heap.size := hx.box.lt
  have hv5 := hv.fr hs fun k hk e => by
    rcases hb k hk with h1 | h1
    · exact hx.ux (by rw [h1, e])
    · have e2 : k = g.xb := e
      omega
  have ho5 := (hx.rest.fr hf (fun k hk e => hx.far k e hk)).fr hs fun k hk e => hx.rx (by rw [hk]; exact congrArg some e)
  have hm5 := (hx.holds.fr hf fun e => hx.uh e).fr hs fun e => hx.xh (by rw [← show g.hb = g.xb from e])
  refine ⟨hfw, LkV.line (m := m) (who := who) h hg hbox ?_ ?_ (fun k hk => (hb k hk).imp (fun e => .inr (.inr (.inl e))) id) (fun k hk => .inl (.inr (.inr (.inr hk)))) (fun k hk hk2 => (hb k hk).elim (fun e => hx.far k e hk2) fun e => by have := hx.rest.lt hk2; omega) hm5 hfw⟩
  · rw [upL_snoc, if_pos ⟨rfl, h0⟩]
    unfold prs at hv5 ⊢; rw [List.map_append]; exact hv5
  · rw [restL_snoc, if_neg (fun e => h0 e.2), List.append_nil]
    exact ho5
/-- .. behind its operations. -/
theorem LkV.lineRest {s : Spot} {g : GX} {who m : Int} {v : Value} (h : LkV w lb sb wb D V G S) (hg : (s, g) ∈ G) (h0 : heldL D.H who s = 0) (hv : OwnH w' v (prs (restL D.H D.W s) ++ [(who, m)])) (hf : Fr w w' (fun k => g.rv.ownBlock = some k)) (hb : ∀ k, v.ownBlock = some k → g.rv.ownBlock = some k ∨ w.heap.size ≤ k) :
    Fr w (w'.setCell ⟨g.xb, 2, none⟩ v) g.own ∧ ∃ G' S', LkV (w'.setCell ⟨g.xb, 2, none⟩ v) lb sb wb { D with W := D.W ++ [⟨s, who, m⟩] } V G' S' ∧ (∀ k, S k → S' k) ∧ (∀ k, S' k → S k ∨ w.heap.size ≤ k) ∧ ∀ K, Few S K → Few S' (K + 2) := by
  have hx := h.at_ _ hg
  have hs : Fr w' (w'.setCell ⟨g.xb, 2, none⟩ v) (fun k => k = g.xb) := Fr.store _ _ _ _
  have hfw : Fr w (w'.setCell ⟨g.xb, 2, none⟩ v) g.own := (hf.mono fun k _ hk => .inr (.inr (.inr hk))).trans hs fun k _ e => .inl e
  have hbox : Bk (w'.setCell ⟨g.xb, 2, none⟩ v) g.xb 74 [.map (some g.hb), g.uv, v] := (hx.box.fr hf fun e => hx.rx e).set 2 v
  have hlx : g.xb < w.heap.size := hx.box.lt
  have hv5 := hv.fr hs fun k hk e => by
    rcases hb k hk with h1 | h1
    · exact hx.rx (by rw [h1, e])
    · have e2 : k = g.xb := e
      omega
  have ho5 := (hx.up.fr hf (fun k hk e => hx.far k hk e)).fr hs fun k hk e => hx.ux (by rw [hk]; exact congrArg some e)
  have hm5 := (hx.holds.fr hf fun e => hx.rh e).fr hs fun e => hx.xh (by rw [← show g.hb = g.xb from e])
  refine ⟨hfw, LkV.line (m := m) (who := who) h hg hbox ?_ ?_ (fun k hk => .inl (.inr (.inr (.inl hk)))) (fun k hk => (hb k hk).imp (fun e => .inr (.inr (.inr e))) id) (fun k hk hk2 => (hb k hk2).elim (fun e => hx.far k hk e) fun e => by have := hx.up.lt hk; omega) hm5 hfw⟩
  · rw [upL_snoc, if_neg (fun e => e.2 h0), List.append_nil]
    exact ho5
  · rw [restL_snoc, if_pos ⟨rfl, h0⟩]
    unfold prs at hv5 ⊢; rw [List.map_append]; exact hv5
theorem hold_new (W : World) (a b : Int) : SlAt (W.alloc (.cells #[.int .i64 a, .int .u8 b] 67)) 2 (.slice (some ⟨W.heap.size, 0, none⟩) 1 1) 1 [.int .i64 a, .int .u8 b] := by
  refine ⟨rfl, .inr ⟨⟨W.heap.size, 0, none⟩, 1, rfl, fun k u hu => ?_⟩⟩
  have h1 := (Bk.new W 67 #[.int .i64 a, .int .u8 b]).cell k
  rw [Addr.add_lit, Nat.zero_add, h1]
  exact hu
end
/-- A wish is in its line. -/
def LineAt (w0 : World) (a6 lb sb wb : Nat) (D : LkS) (S : Nat → Prop) (s : Spot) (who j : Int) (wx : World) : Prop :=
  ∃ G' S', LkV wx lb sb wb { D with W := D.W ++ [⟨s, who, j⟩] } (pairsW D.W) G' S' ∧ Fr w0 wx S ∧ (∀ k, S k → S' k) ∧ (∀ k, S' k → S k ∨ w0.heap.size ≤ k) ∧ (∀ K, Few S K → Few S' (K + 4)) ∧ Bk wx a6 30 [.int .i64 s.1, .bool s.2.1, .int .i64 s.2.2]
/-- Told by whom a spot is asked for; the table as it is then, and what may be laid for it. -/
def AskRet (lb : Nat) (R : (Bool × Int) × LkS) (S : Nat → Prop) (w : World) (e : Ending) (w' : World) : Prop :=
  ∃ S', e = .returned (.tuple #[.bool R.1.1, .int .i64 R.1.2]) ∧ LkA w' lb R.2 S' ∧ (∀ k, S k → S' k) ∧ (∀ k, S' k → S k ∨ w.heap.size ≤ k) ∧ (∀ K, Few S K → Few S' (K + 4)) ∧ Fr w w' S
end Go.Proofs.YtokeciekncincabGreat
namespace Go.Proofs.YtokeciekncincabGreat
open Go

theorem free_len {N : Nat} {D : LkS} (h : DOk N D) (who : Int) (s : Spot) (hN : N ≤ 100000) : (freeL D who s).1.1.length ≤ 100000 := by
  have h0 := h.few
  unfold freeL
  split
  · exact Nat.zero_le _
  split
  · exact Nat.zero_le _
  have h1 := woken_len [s] { D with H := dropS D.H who s }
  dsimp only at h1 ⊢
  omega
theorem cancel_len {N : Nat} {D : LkS} (h : DOk N D) (who : Int) (hN : N ≤ 100000) : (cancelL D who).1.1.length ≤ 100000 := by
  have h0 := h.few
  unfold cancelL
  split
  · exact Nat.zero_le _
  rename_i e he
  have h1 := woken_len [e.s] { D with W := dropA D.W who }
  have h2 : (dropA D.W who).length ≤ D.W.length := List.length_filter_le _ _
  dsimp only at h1 ⊢
  omega
theorem leave_len {N : Nat} {D : LkS} (h : DOk N D) (who : Int) (hN : N ≤ 100000) : (leaveL D who).1.length ≤ 100000 := by
  have h0 := h.few
  unfold leaveL
  have h1 := woken_len (leaveAll D who) { D with H := D.H.filter fun e => e.who != who, W := dropA D.W who }
  have h2 : (dropA D.W who).length ≤ D.W.length := List.length_filter_le _ _
  dsimp only at h1 ⊢
  omega
end Go.Proofs.YtokeciekncincabGreat
