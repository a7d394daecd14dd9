/-
  A table of locks as the laws have it: the calls in one form each.
  No condition but sizes.
  Walk of the law's example.
  No condition.
-/
import Derived.Test.YtokeciekncincabGreatPkC18
import Derived.Test.YtokeciekncincabGreatPkC19
import Derived.Test.YtokeciekncincabGreatPkC25
import Derived.Test.YtokeciekncincabGreatPkC26
import Derived.Test.YtokeciekncincabGreatPkC27
import Derived.Test.YtokeciekncincabGreatPkC1
namespace Go.Proofs.YtokeciekncincabGreat
open Go Go.RowKit Go.Maps

structure LkT (w : World) (lb : Nat) (D : LkS) (S : Nat → Prop) (N K : Nat) : Prop where
  at_ : LkA w lb D S
  ok : DOk N D
  few : Few S K
/-- .. all of it in A. -/
def LkU (w : World) (lb : Nat) (D : LkS) (N K : Nat) (A : Nat → Prop) : Prop := ∃ S, LkT w lb D S N K ∧ ∀ k, S k → A k
def Low (B k : Nat) : Prop := B ≤ k
section
variable {w w' : World} {lb : Nat} {D : LkS} {S : Nat → Prop} {N K : Nat} {A : Nat → Prop}
theorem LkT.fr0 (h : LkT w lb D S N K) (hf : Fr w w' Nil) : LkT w' lb D S N K := ⟨h.at_.fr0 hf, h.ok, h.few⟩
theorem LkU.fr0 (h : LkU w lb D N K A) (hf : Fr w w' Nil) : LkU w' lb D N K A := by
  obtain ⟨S, h1, h2⟩ := h
  exact ⟨S, h1.fr0 hf, h2⟩
theorem LkU.fr {T : Nat → Prop} (h : LkU w lb D N K A) (hf : Fr w w' T) (hT : ∀ k, A k → ¬ T k) : LkU w' lb D N K A := by
  obtain ⟨S, h1, h2⟩ := h
  exact ⟨S, ⟨h1.at_.fr hf fun k hk => hT k (h2 k hk), h1.ok, h1.few⟩, h2⟩
theorem LkU.weak {A' : Nat → Prop} (h : LkU w lb D N K A) (hA : ∀ k, A k → A' k) : LkU w lb D N K A' := by
  obtain ⟨S, h1, h2⟩ := h
  exact ⟨S, h1, fun k hk => hA k (h2 k hk)⟩
/-- What is laid behind it is none of it. -/
theorem LkU.not {A' : Nat → Prop} (h : LkU w lb D N K A) (hA : ∀ k, A k → k < w.heap.size → A' k) : LkU w lb D N K A' := by
  obtain ⟨S, h1, h2⟩ := h
  exact ⟨S, h1, fun k hk => hA k (h2 k hk) (h1.at_.lt k hk)⟩
theorem LkU.ok (h : LkU w lb D N K A) : DOk N D := by
  obtain ⟨S, h1, h2⟩ := h
  exact h1.ok
theorem LkU.more {N' K' : Nat} (h : LkU w lb D N K A) (h1 : N ≤ N') (h2 : K ≤ K') : LkU w lb D N' K' A := by
  obtain ⟨S, h3, h4⟩ := h
  exact ⟨S, ⟨h3.at_, ⟨h3.ok.inv, Nat.le_trans h3.ok.few h1, h3.ok.wf⟩, h3.few.more h2⟩, h4⟩
theorem low_fr {T : Nat → Prop} (hf : Fr w w' T) (hT : ∀ k, T k → A k) : Fr w w' A := hf.mono fun k _ hk => hT k hk
end
/-! ### new -/
theorem few3 (a b c : Nat) : Few (fun k => k = a ∨ k = b ∨ k = c) 3 := ⟨[a, b, c], by simp, fun k hk => by rcases hk with rfl | rfl | rfl <;> simp⟩
def NewT (most : Int) (w : World) (e : Ending) (w' : World) : Prop := ∃ lb S, e = .returned (lkp lb) ∧ LkT w' lb ⟨max 0 most, [], []⟩ S 0 3 ∧ (∀ k, S k → w.heap.size ≤ k) ∧ Fr w w' Nil
set_option maxRecDepth 100000 in
set_option maxHeartbeats 1000000 in
theorem new_T (most : Int) (w : World) : Calls Tryz.prog 6 #[.int .i64 most] w (NewT most w) := by
  have hmm := @run_makeMap Tryz.prog
  have hok : ∀ m : Int, DOk 0 ⟨m, [], []⟩ := fun m => ⟨⟨List.Pairwise.nil, fun e he => (by cases he), List.Pairwise.nil, fun e he => (by cases he)⟩, Nat.le_refl _, ⟨fun e he => (by cases he), fun e he => (by cases he)⟩⟩
  go_enter Tryz.func6, Tryz.ntmps6
  go_wp2_with fail
  go_ret
  exact ⟨_, _, rfl, ⟨lk_made w (max 0 most), hok _, few3 _ _ _⟩, fun k hk => by (rcases hk with h | h | h <;> omega), (((Fr.refl w Nil).alloc _).alloc _).alloc _⟩
theorem new_U (most : Int) (w : World) : Calls Tryz.prog 6 #[.int .i64 most] w fun e w' => ∃ lb, e = .returned (lkp lb) ∧ LkU w' lb ⟨max 0 most, [], []⟩ 0 3 (Low w.heap.size) ∧ Fr w w' Nil :=
  (new_T most w).mono fun _ _ ⟨lb, S, h1, h2, h3, h4⟩ => ⟨lb, h1, ⟨S, h2, h3⟩, h4⟩
section
variable {w : World} {lb : Nat} {D : LkS} {S : Nat → Prop} {N K : Nat} {A : Nat → Prop}
theorem LkT.lt (h : LkT w lb D S N K) : ∀ k, S k → k < w.heap.size := h.at_.lt
/-! ### what turns it -/
theorem LkT.ask (h : LkT w lb D S N K) (who : Int) (s : Spot) (m : Int) (hN : N ≤ 100000) (hK : K ≤ 1000000000) (hw : (Lit.int .i64 who).wf = true) (hs : SWf s) (hm : 0 ≤ m) :
    Calls Tryz.prog 10 #[lkp lb, .int .i64 who, spV s, .int .u8 m] w fun e w' => ∃ S', e = .returned (.tuple #[.bool (askL D who s m).1.1, .int .i64 (askL D who s m).1.2]) ∧ LkT w' lb (askL D who s m).2 S' (N + 1) (K + 4) ∧ (∀ k, S k → S' k) ∧ (∀ k, S' k → S k ∨ w.heap.size ≤ k) ∧ Fr w w' S :=
  (ask_any who s m w h.at_ h.ok hN hw hs hm h.few hK).mono fun _ _ ⟨S', h1, h2, h3, h4, h5, h6⟩ => ⟨S', h1, ⟨h2, h.ok.ask m hw hs, h5 K h.few⟩, h3, h4, h6⟩
theorem LkU.ask (h : LkU w lb D N K A) (hA : ∀ k, w.heap.size ≤ k → A k) (who : Int) (s : Spot) (m : Int) (hN : N ≤ 100000) (hK : K ≤ 1000000000) (hw : (Lit.int .i64 who).wf = true) (hs : SWf s) (hm : 0 ≤ m) :
    Calls Tryz.prog 10 #[lkp lb, .int .i64 who, spV s, .int .u8 m] w fun e w' => e = .returned (.tuple #[.bool (askL D who s m).1.1, .int .i64 (askL D who s m).1.2]) ∧ LkU w' lb (askL D who s m).2 (N + 1) (K + 4) A ∧ Fr w w' A := by
  obtain ⟨S, hT, hS⟩ := h
  exact (hT.ask who s m hN hK hw hs hm).mono fun _ _ ⟨S', h1, h2, _, h4, h5⟩ => ⟨h1, ⟨S', h2, fun k hk => (h4 k hk).elim (hS k) fun h => hA k h⟩, low_fr h5 hS⟩
theorem LkT.free (h : LkT w lb D S N K) (who : Int) (s : Spot) (hN : N ≤ 100000) (hw : (Lit.int .i64 who).wf = true) (hs : SWf s) :
    Calls Tryz.prog 12 #[lkp lb, .int .i64 who, spV s] w fun e w' => ∃ ov, e = .returned (.tuple #[ov, .int .i64 (freeL D who s).1.2]) ∧ OwnInts w' 2 ov (freeL D who s).1.1 ∧ (∀ k, ov.ownBlock = some k → w.heap.size ≤ k) ∧ LkT w' lb (freeL D who s).2 S N K ∧ Fr w w' S :=
  (free_any who s w h.at_ h.ok hN hw hs).mono fun _ _ ⟨ov, h1, h2, h3, h4, h5, h6⟩ => ⟨ov, h1, h2, h3, ⟨h4, h5, h.few⟩, h6⟩
theorem LkT.cancel (h : LkT w lb D S N K) (who : Int) (hN : N ≤ 100000) (hw : (Lit.int .i64 who).wf = true) :
    Calls Tryz.prog 13 #[lkp lb, .int .i64 who] w fun e w' => ∃ ov, e = .returned (.tuple #[ov, .int .i64 (cancelL D who).1.2]) ∧ OwnInts w' 2 ov (cancelL D who).1.1 ∧ (∀ k, ov.ownBlock = some k → w.heap.size ≤ k) ∧ LkT w' lb (cancelL D who).2 S N K ∧ Fr w w' S :=
  (cancel_any who w h.at_ h.ok hN hw).mono fun _ _ ⟨ov, h1, h2, h3, h4, h5, h6⟩ => ⟨ov, h1, h2, h3, ⟨h4, h5, h.few⟩, h6⟩
theorem LkT.leave (h : LkT w lb D S N K) (who : Int) (hN : N ≤ 100000) (hw : (Lit.int .i64 who).wf = true) :
    Calls Tryz.prog 15 #[lkp lb, .int .i64 who] w fun e w' => ∃ ov, e = .returned ov ∧ OwnInts w' 2 ov (leaveL D who).1 ∧ (∀ k, ov.ownBlock = some k → w.heap.size ≤ k) ∧ LkT w' lb (leaveL D who).2 S N K ∧ Fr w w' S :=
  (leave_any who w h.at_ h.ok hN hw).mono fun _ _ ⟨ov, h1, h2, h3, h4, h5, h6⟩ => ⟨ov, h1, h2, h3, ⟨h4, h5, h.few⟩, h6⟩
theorem LkU.free (h : LkU w lb D N K A) (who : Int) (s : Spot) (hN : N ≤ 100000) (hw : (Lit.int .i64 who).wf = true) (hs : SWf s) :
    Calls Tryz.prog 12 #[lkp lb, .int .i64 who, spV s] w fun e w' => ∃ ov, e = .returned (.tuple #[ov, .int .i64 (freeL D who s).1.2]) ∧ OwnInts w' 2 ov (freeL D who s).1.1 ∧ LkU w' lb (freeL D who s).2 N K A ∧ Fr w w' A := by
  obtain ⟨S, hT, hS⟩ := h
  exact (hT.free who s hN hw hs).mono fun _ _ ⟨ov, h1, h2, _, h4, h5⟩ => ⟨ov, h1, h2, ⟨S, h4, hS⟩, low_fr h5 hS⟩
theorem LkU.cancel (h : LkU w lb D N K A) (who : Int) (hN : N ≤ 100000) (hw : (Lit.int .i64 who).wf = true) :
    Calls Tryz.prog 13 #[lkp lb, .int .i64 who] w fun e w' => ∃ ov, e = .returned (.tuple #[ov, .int .i64 (cancelL D who).1.2]) ∧ OwnInts w' 2 ov (cancelL D who).1.1 ∧ LkU w' lb (cancelL D who).2 N K A ∧ Fr w w' A := by
  obtain ⟨S, hT, hS⟩ := h
  exact (hT.cancel who hN hw).mono fun _ _ ⟨ov, h1, h2, _, h4, h5⟩ => ⟨ov, h1, h2, ⟨S, h4, hS⟩, low_fr h5 hS⟩
theorem LkU.leave (h : LkU w lb D N K A) (who : Int) (hN : N ≤ 100000) (hw : (Lit.int .i64 who).wf = true) :
    Calls Tryz.prog 15 #[lkp lb, .int .i64 who] w fun e w' => ∃ ov, e = .returned ov ∧ OwnInts w' 2 ov (leaveL D who).1 ∧ LkU w' lb (leaveL D who).2 N K A ∧ Fr w w' A := by
  obtain ⟨S, hT, hS⟩ := h
  exact (hT.leave who hN hw).mono fun _ _ ⟨ov, h1, h2, _, h4, h5⟩ => ⟨ov, h1, h2, ⟨S, h4, hS⟩, low_fr h5 hS⟩
/-! ### what only tells -/
theorem LkU.held (h : LkU w lb D N K A) (who : Int) (s : Spot) (hw : (Lit.int .i64 who).wf = true) (hs : SWf s) :
    Calls Tryz.prog 16 #[lkp lb, .int .i64 who, spV s] w fun e w' => e = .returned (.int .u8 (heldL D.H who s)) ∧ Fr w w' Nil := by
  obtain ⟨S, hT, hS⟩ := h
  exact held_any who s w hT.at_ hw hs
theorem LkU.used (h : LkU w lb D N K A) (hN : N ≤ 100000) : Calls Tryz.prog 20 #[lkp lb] w fun e w' => e = .returned (.int .i64 (usedL D : Nat)) ∧ Fr w w' Nil := by
  obtain ⟨S, hT, hS⟩ := h
  exact used_any w hT.at_ hT.ok hN
theorem LkU.waits (h : LkU w lb D N K A) (who : Int) (hN : N ≤ 100000) (hw : (Lit.int .i64 who).wf = true) :
    Calls Tryz.prog 14 #[lkp lb, .int .i64 who] w fun e w' => e = .returned (.tuple #[spV (waitsL D who).1, .int .u8 (waitsL D who).2.1, .bool (waitsL D who).2.2]) ∧ Fr w w' Nil := by
  obtain ⟨S, hT, hS⟩ := h
  exact waits_any who w hT.at_ hT.ok hN hw
theorem LkU.holders (h : LkU w lb D N K A) (s : Spot) (hN : N ≤ 100000) (hs : SWf s) :
    Calls Tryz.prog 17 #[lkp lb, spV s] w (NewH (holdersL D.H s) w) := by
  obtain ⟨S, hT, hS⟩ := h
  exact holders_any s w hT.at_ hT.ok hN hs
theorem LkU.queue (h : LkU w lb D N K A) (s : Spot) (hN : N ≤ 100000) (hs : SWf s) :
    Calls Tryz.prog 18 #[lkp lb, spV s] w (NewH (prs (queueL D.H D.W s)) w) := by
  obtain ⟨S, hT, hS⟩ := h
  exact lqueue_any s w hT.at_ hT.ok hN hs
theorem LkU.spots (h : LkU w lb D N K A) (who : Int) (hN : N ≤ 100000) (hw : (Lit.int .i64 who).wf = true) :
    Calls Tryz.prog 19 #[lkp lb, .int .i64 who] w (NewSp (spotsL D.H who) w) := by
  obtain ⟨S, hT, hS⟩ := h
  exact spots_any who w hT.at_ hT.ok hN hw
theorem LkU.for_ (h : LkU w lb D N K A) (who : Int) (hN : N ≤ 100000) (hw : (Lit.int .i64 who).wf = true) :
    Calls Tryz.prog 21 #[lkp lb, .int .i64 who] w (NewI (forL D who) w) := by
  obtain ⟨S, hT, hS⟩ := h
  exact for_any who w hT.at_ hT.ok hN hw
end
end Go.Proofs.YtokeciekncincabGreat
namespace Go.Proofs.YtokeciekncincabGreat
open Go Go.RowKit Go.Maps

theorem for_eval {D : LkS} {who : Int} {e : LkE} {ys : List Int} (hw : wishL D.W who = some e) (hi : Inc ys) (hm : ∀ y, y ∈ ys ↔ y ∈ barL ((holdsOf D.H e.s).map fun p => (p.1, heldL D.H p.1 e.s)) who e.m ++ tillL (prs (queueL D.H D.W e.s)) who) : forL D who = ys := by
  unfold forL
  rw [hw]
  show Lib.compact (sortZ _) = ys
  obtain ⟨h1, h2⟩ := compact_spec _ (sortZ_sorted (barL (holdersL D.H e.s) who e.m ++ tillL (prs (queueL D.H D.W e.s)) who))
  refine inc_ext h1 hi fun y => ?_
  rw [h2, (sortZ_perm _).mem_iff, hm, List.mem_append, List.mem_append]
  refine or_congr ?_ Iff.rfl
  have hp : (holdersL D.H e.s).Perm ((holdsOf D.H e.s).map fun p => (p.1, heldL D.H p.1 e.s)) := by
    have h3 := (keysM_perm (holdsOf D.H e.s)).map fun who => (who, heldL D.H who e.s)
    rw [List.map_map] at h3
    exact h3
  unfold barL
  exact ((hp.filter _).map _).mem_iff
theorem Tryz.zeroSp (w : World) : (zeroValue 30).run Tryz.prog w = .ok (spV (0, false, 0)) w := by kernel_rfl
set_option maxHeartbeats 1000000 in
theorem row_any (k : Int) (w : World) : Calls Tryz.prog 11 #[.int .i64 k] w fun e w' => e = .returned (spV (0, true, k)) ∧ Fr w w' Nil := by
  obtain ⟨w0, hw0⟩ : ∃ w0, w.alloc (.cells #[.int .i64 0, .bool false, .int .i64 0] 30) = w0 := ⟨_, rfl⟩
  have hf0 : Fr w w0 Nil := by rw [← hw0]; exact (Fr.refl w Nil).alloc _
  have hb : Bk w0 w.heap.size 30 [.int .i64 0, .bool false, .int .i64 0] := by rw [← hw0]; exact Bk.new w _ _
  have c0 : w0.cell? ⟨w.heap.size, 0, none⟩ = some (.int .i64 0) := hb.cell 0
  have c1 : w0.cell? ⟨w.heap.size, 1, none⟩ = some (.bool false) := hb.cell 1
  have c2 : w0.cell? ⟨w.heap.size, 2, none⟩ = some (.int .i64 0) := hb.cell 2
  have f0 := hb.free 0
  have f1 := hb.free 1
  have f2 := hb.free 2
  have hbr := ((hb.set 0 (.int .i64 0)).set 1 (.bool true)).set 2 (.int .i64 k)
  have hfr : Fr w0 (((w0.setCell ⟨w.heap.size, 0, none⟩ (.int .i64 0)).setCell ⟨w.heap.size, 1, none⟩ (.bool true)).setCell ⟨w.heap.size, 2, none⟩ (.int .i64 k)) (fun k => k = w.heap.size) := ((Fr.store _ _ _ _).trans (Fr.store _ _ _ _) fun _ _ h => h).trans (Fr.store _ _ _ _) fun _ _ h => h
  have HBR := Lib.hid hbr
  have HFR := Lib.hid hfr
  have HF0 := Lib.hid hf0
  clear hbr hfr hf0 hb
  go_enter Tryz.func11, Tryz.ntmps11
  go_wp2_with fail
  have hb1 := HBR.out
  have hf1 := HFR.out
  obtain ⟨w1, hw1⟩ : ∃ w1, ((w0.setCell ⟨w.heap.size, 0, none⟩ (.int .i64 0)).setCell ⟨w.heap.size, 1, none⟩ (.bool true)).setCell ⟨w.heap.size, 2, none⟩ (.int .i64 k) = w1 := ⟨_, rfl⟩
  rw [hw1] at hb1 hf1 ⊢
  have t0 : w1.cell? ⟨w.heap.size, 0, none⟩ = some (.int .i64 0) := hb1.cell 0
  have t1 : w1.cell? ⟨w.heap.size, 1, none⟩ = some (.bool true) := hb1.cell 1
  have t2 : w1.cell? ⟨w.heap.size, 2, none⟩ = some (.int .i64 k) := hb1.cell 2
  refine bodyPost_ret (by simp [results, Tryz.results11, go_sem, t0, t1, t2]; try rfl) rfl ?_
  exact ⟨rfl, HF0.out.trans hf1 fun k hk e => by omega⟩
/-! ### the example -/
theorem lit1 (w : World) (a : Int) : IntsAt (w.alloc (.cells #[.int .i64 a] 2)) (.slice (some ⟨w.heap.size, 0, none⟩) 1 1) [a] := by
  refine .inr ⟨⟨w.heap.size, 0, none⟩, 1, rfl, fun j n hn => ?_⟩
  have h1 := (Bk.new w 2 #[.int .i64 a]).cell j
  rw [Addr.add_lit, Nat.zero_add, h1]
  match j, hn with
  | 0, hn => cases hn; rfl
theorem lit2 (w : World) (a b : Int) : IntsAt (w.alloc (.cells #[.int .i64 a, .int .i64 b] 2)) (.slice (some ⟨w.heap.size, 0, none⟩) 2 2) [a, b] := by
  refine .inr ⟨⟨w.heap.size, 0, none⟩, 2, rfl, fun j n hn => ?_⟩
  have h1 := (Bk.new w 2 #[.int .i64 a, .int .i64 b]).cell j
  rw [Addr.add_lit, Nat.zero_add, h1]
  match j, hn with
  | 0, hn => cases hn; rfl
  | 1, hn => cases hn; rfl
def rw3 : Spot := (0, true, 3)
def wk0 : LkS := ⟨9, [], []⟩
def wk1 : LkS := ⟨9, [⟨rw3, 1, 3⟩], []⟩
def wk2 : LkS := ⟨9, [⟨rw3, 1, 3⟩, ⟨rw3, 2, 3⟩], []⟩
def wk3 : LkS := ⟨9, [⟨rw3, 1, 3⟩, ⟨rw3, 2, 3⟩], [⟨rw3, 3, 5⟩]⟩
def wk4 : LkS := ⟨9, [⟨rw3, 1, 3⟩, ⟨rw3, 2, 3⟩], [⟨rw3, 3, 5⟩, ⟨rw3, 4, 3⟩]⟩
def wk5 : LkS := ⟨9, [⟨rw3, 1, 3⟩, ⟨rw3, 2, 3⟩], [⟨rw3, 3, 5⟩, ⟨rw3, 4, 3⟩, ⟨rw3, 1, 5⟩]⟩
def wk6 : LkS := ⟨9, [⟨rw3, 1, 5⟩], [⟨rw3, 3, 5⟩, ⟨rw3, 4, 3⟩]⟩
theorem wk_a0 : askL wk0 1 rw3 3 = ((true, 0), wk1) := by kernel_rfl
theorem wk_a1 : askL wk1 2 rw3 3 = ((true, 0), wk2) := by kernel_rfl
theorem wk_a2 : askL wk2 3 rw3 5 = ((false, 0), wk3) := by kernel_rfl
theorem wk_a3 : askL wk3 4 rw3 3 = ((false, 0), wk4) := by kernel_rfl
theorem wk_a4 : askL wk4 1 rw3 5 = ((false, 0), wk5) := by kernel_rfl
theorem wk_l : leaveL wk5 2 = ([1], wk6) := by kernel_rfl
theorem wk_h : heldL wk6.H 1 rw3 = 5 := by kernel_rfl
theorem wk_u : usedL wk6 = 3 := by kernel_rfl
theorem wk_f1 : forL wk5 1 = [2] := for_eval (e := ⟨rw3, 1, 5⟩) (by kernel_rfl) (by unfold Inc; decide) fun y => by
  rw [show barL ((holdsOf wk5.H rw3).map fun p => (p.1, heldL wk5.H p.1 rw3)) 1 5 ++ tillL (prs (queueL wk5.H wk5.W rw3)) 1 = [2] by kernel_rfl]
theorem wk_f3 : forL wk5 3 = [1, 2] := for_eval (e := ⟨rw3, 3, 5⟩) (by kernel_rfl) (by unfold Inc; decide) fun y => by
  rw [show barL ((holdsOf wk5.H rw3).map fun p => (p.1, heldL wk5.H p.1 rw3)) 3 5 ++ tillL (prs (queueL wk5.H wk5.W rw3)) 3 = [1, 2, 1] by kernel_rfl]
  simp only [List.mem_cons, List.not_mem_nil, or_false]
  omega
theorem wk_f4 : forL wk5 4 = [1, 3] := for_eval (e := ⟨rw3, 4, 3⟩) (by kernel_rfl) (by unfold Inc; decide) fun y => by
  rw [show barL ((holdsOf wk5.H rw3).map fun p => (p.1, heldL wk5.H p.1 rw3)) 4 3 ++ tillL (prs (queueL wk5.H wk5.W rw3)) 4 = [1, 3] by kernel_rfl]
theorem wf3 : SWf rw3 := by unfold SWf; decide
set_option maxRecDepth 100000 in
set_option maxHeartbeats 8000000 in
theorem works_any (w : World) : Calls Tryz.prog 5 #[] w fun e w' => e = .returned (.bool true) ∧ Fr w w' Nil := by
  have cN := new_U 9 w
  rw [show (max 0 9 : Int) = 9 from rfl] at cN
  go_enter Tryz.func5, Tryz.ntmps5
  go_wp2_with fail
  refine cN.mono ?_
  rintro e w1 ⟨lb, rfl, hU, hf⟩
  have HU : Hid (LkU w1 lb wk0 0 3 (Low w.heap.size)) := hU
  have HF := Lib.hid hf
  clear cN hU hf
  go_wp2_with fail
  refine (row_any 3 _).mono ?_
  rintro e w2 ⟨rfl, hf⟩
  have HUr := Lib.hid (HU.out.fr0 hf)
  have HFr := Lib.hid (HF.out.trans0 hf)
  clear HU HF hf
  have cA := HUr.out.ask (fun k hk => Nat.le_trans HFr.out.size hk) 1 rw3 3 (by decide) (by decide) (by decide) wf3 (by decide)
  rw [wk_a0] at cA
  go_wp2_with fail
  refine cA.mono ?_
  rintro e w3 ⟨rfl, hU, hf⟩
  have HU := Lib.hid hU
  have HF : Hid (Fr w w3 Nil) := HFr.out.trans hf fun k hk h => by have h2 : w.heap.size ≤ k := h; omega
  clear HUr HFr cA hU hf
  go_wp2_with fail
  refine (row_any 3 _).mono ?_
  rintro e w4 ⟨rfl, hf⟩
  have HUr := Lib.hid (HU.out.fr0 hf)
  have HFr := Lib.hid (HF.out.trans0 hf)
  clear HU HF hf
  have cA := HUr.out.ask (fun k hk => Nat.le_trans HFr.out.size hk) 2 rw3 3 (by decide) (by decide) (by decide) wf3 (by decide)
  rw [wk_a1] at cA
  go_wp2_with fail
  refine cA.mono ?_
  rintro e w5 ⟨rfl, hU, hf⟩
  have HU := Lib.hid hU
  have HF : Hid (Fr w w5 Nil) := HFr.out.trans hf fun k hk h => by have h2 : w.heap.size ≤ k := h; omega
  clear HUr HFr cA hU hf
  go_wp2_with fail
  refine (row_any 3 _).mono ?_
  rintro e w6 ⟨rfl, hf⟩
  have HUr := Lib.hid (HU.out.fr0 hf)
  have HFr := Lib.hid (HF.out.trans0 hf)
  clear HU HF hf
  have cA := HUr.out.ask (fun k hk => Nat.le_trans HFr.out.size hk) 3 rw3 5 (by decide) (by decide) (by decide) wf3 (by decide)
  rw [wk_a2] at cA
  go_wp2_with fail
  refine cA.mono ?_
  rintro e w7 ⟨rfl, hU, hf⟩
  have HU := Lib.hid hU
  have HF : Hid (Fr w w7 Nil) := HFr.out.trans hf fun k hk h => by have h2 : w.heap.size ≤ k := h; omega
  clear HUr HFr cA hU hf
  go_wp2_with fail
  refine (row_any 3 _).mono ?_
  rintro e w8 ⟨rfl, hf⟩
  have HUr := Lib.hid (HU.out.fr0 hf)
  have HFr := Lib.hid (HF.out.trans0 hf)
  clear HU HF hf
  have cA := HUr.out.ask (fun k hk => Nat.le_trans HFr.out.size hk) 4 rw3 3 (by decide) (by decide) (by decide) wf3 (by decide)
  rw [wk_a3] at cA
  go_wp2_with fail
  refine cA.mono ?_
  rintro e w9 ⟨rfl, hU, hf⟩
  have HU := Lib.hid hU
  have HF : Hid (Fr w w9 Nil) := HFr.out.trans hf fun k hk h => by have h2 : w.heap.size ≤ k := h; omega
  clear HUr HFr cA hU hf
  go_wp2_with fail
  refine (row_any 3 _).mono ?_
  rintro e w10 ⟨rfl, hf⟩
  have HUr := Lib.hid (HU.out.fr0 hf)
  have HFr := Lib.hid (HF.out.trans0 hf)
  clear HU HF hf
  have cA := HUr.out.ask (fun k hk => Nat.le_trans HFr.out.size hk) 1 rw3 5 (by decide) (by decide) (by decide) wf3 (by decide)
  rw [wk_a4] at cA
  go_wp2_with fail
  refine cA.mono ?_
  rintro e w11 ⟨rfl, hU, hf⟩
  have HU := Lib.hid hU
  have HF : Hid (Fr w w11 Nil) := HFr.out.trans hf fun k hk h => by have h2 : w.heap.size ≤ k := h; omega
  clear HUr HFr cA hU hf
  have cF := HU.out.for_ 1 (by decide) (by decide)
  rw [wk_f1] at cF
  go_wp2_with fail
  refine cF.mono ?_
  rintro e w12 ⟨v, rfl, h1, h2, hf⟩
  have HUr := Lib.hid (HU.out.fr0 hf)
  have HFr := Lib.hid (HF.out.trans0 hf)
  have hfl := (Fr.refl w12 Nil).alloc (.cells #[.int .i64 2] 2)
  have cS := sameInts_any v (.slice (some ⟨w12.heap.size, 0, none⟩) 1 1) _ [2] _ (h1.at.fr hfl fun _ _ h => h) (lit1 w12 2) (by decide) (by decide)
  obtain ⟨va, vc, rfl⟩ := h1.shape
  have HFL := Lib.hid hfl
  clear HU HF cF h1 h2 hf hfl
  go_wp2_with fail
  refine cS.mono ?_
  rintro e w13 ⟨rfl, hf⟩
  have HU := Lib.hid ((HUr.out.fr0 HFL.out).fr0 hf)
  have HF := Lib.hid ((HFr.out.trans0 HFL.out).trans0 hf)
  clear HUr HFr HFL cS hf
  have cF := HU.out.for_ 3 (by decide) (by decide)
  rw [wk_f3] at cF
  go_wp2_with fail
  refine cF.mono ?_
  rintro e w14 ⟨v, rfl, h1, h2, hf⟩
  have HUr := Lib.hid (HU.out.fr0 hf)
  have HFr := Lib.hid (HF.out.trans0 hf)
  have hfl := (Fr.refl w14 Nil).alloc (.cells #[.int .i64 1, .int .i64 2] 2)
  have cS := sameInts_any v (.slice (some ⟨w14.heap.size, 0, none⟩) 2 2) _ [1, 2] _ (h1.at.fr hfl fun _ _ h => h) (lit2 w14 1 2) (by decide) (by decide)
  obtain ⟨va, vc, rfl⟩ := h1.shape
  have HFL := Lib.hid hfl
  clear HU HF cF h1 h2 hf hfl
  go_wp2_with fail
  refine cS.mono ?_
  rintro e w15 ⟨rfl, hf⟩
  have HU := Lib.hid ((HUr.out.fr0 HFL.out).fr0 hf)
  have HF := Lib.hid ((HFr.out.trans0 HFL.out).trans0 hf)
  clear HUr HFr HFL cS hf
  have cF := HU.out.for_ 4 (by decide) (by decide)
  rw [wk_f4] at cF
  go_wp2_with fail
  refine cF.mono ?_
  rintro e w16 ⟨v, rfl, h1, h2, hf⟩
  have HUr := Lib.hid (HU.out.fr0 hf)
  have HFr := Lib.hid (HF.out.trans0 hf)
  have hfl := (Fr.refl w16 Nil).alloc (.cells #[.int .i64 1, .int .i64 3] 2)
  have cS := sameInts_any v (.slice (some ⟨w16.heap.size, 0, none⟩) 2 2) _ [1, 3] _ (h1.at.fr hfl fun _ _ h => h) (lit2 w16 1 3) (by decide) (by decide)
  obtain ⟨va, vc, rfl⟩ := h1.shape
  have HFL := Lib.hid hfl
  clear HU HF cF h1 h2 hf hfl
  go_wp2_with fail
  refine cS.mono ?_
  rintro e w17 ⟨rfl, hf⟩
  have HU := Lib.hid ((HUr.out.fr0 HFL.out).fr0 hf)
  have HF := Lib.hid ((HFr.out.trans0 HFL.out).trans0 hf)
  clear HUr HFr HFL cS hf
  have cL := HU.out.leave 2 (by decide) (by decide)
  rw [wk_l] at cL
  go_wp2_with fail
  refine cL.mono ?_
  rintro e w18 ⟨v, rfl, h1, hU, hf⟩
  have HUr := Lib.hid hU
  have HFr : Hid (Fr w w18 Nil) := HF.out.trans hf fun k hk h => by have h2 : w.heap.size ≤ k := h; omega
  have hfl := (Fr.refl w18 Nil).alloc (.cells #[.int .i64 1] 2)
  have cS := sameInts_any v (.slice (some ⟨w18.heap.size, 0, none⟩) 1 1) _ [1] _ (h1.at.fr hfl fun _ _ h => h) (lit1 w18 1) (by decide) (by decide)
  obtain ⟨va, vc, rfl⟩ := h1.shape
  have HFL := Lib.hid hfl
  clear HU HF cL h1 hU hf hfl
  go_wp2_with fail
  refine cS.mono ?_
  rintro e w19 ⟨rfl, hf⟩
  have HU := Lib.hid ((HUr.out.fr0 HFL.out).fr0 hf)
  have HF := Lib.hid ((HFr.out.trans0 HFL.out).trans0 hf)
  clear HUr HFr HFL cS hf
  go_wp2_with fail
  refine (row_any 3 _).mono ?_
  rintro e w20 ⟨rfl, hf⟩
  have HUr := Lib.hid (HU.out.fr0 hf)
  have HFr := Lib.hid (HF.out.trans0 hf)
  clear HU HF hf
  have cH := HUr.out.held 1 rw3 (by decide) wf3
  rw [wk_h] at cH
  go_wp2_with fail
  refine cH.mono ?_
  rintro e w21 ⟨rfl, hf⟩
  have HU := Lib.hid (HUr.out.fr0 hf)
  have HF := Lib.hid (HFr.out.trans0 hf)
  clear HUr HFr cH hf
  have cU := HU.out.used (by decide)
  rw [wk_u] at cU
  go_wp2_with fail
  refine cU.mono ?_
  rintro e w22 ⟨rfl, hf⟩
  have HFr := Lib.hid (HF.out.trans0 hf)
  clear HU HF cU hf
  go_wp2_with fail
  go_ret
  exact ⟨rfl, HFr.out⟩
end Go.Proofs.YtokeciekncincabGreat
