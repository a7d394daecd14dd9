/-
  The program's table and the document's, side by side.
  No condition but sizes.
  Walk of the law's does: one call on both tables, answered the same.
  No condition but sizes.
-/
import Derived.Test.YtokeciekncincabGreatPkC31
import Derived.Test.YtokeciekncincabGreatPkC40
import Derived.Test.YtokeciekncincabGreatPkC17
import Derived.Test.YtokeciekncincabGreatPkC6
import Derived.Test.YtokeciekncincabGreatPkC16
import Derived.Deep.CutBlock
namespace Go.Proofs.YtokeciekncincabGreat
open Go Go.RowKit Go.Maps

/-- At lb the program's table reads as D, at mb the document's as E; apart, all of it in A. -/
structure TwoG (w : World) (lb mb : Nat) (D E : LkS) (N K : Nat) (A S1 S2 : Nat → Prop) : Prop where
  l : LkT w lb D S1 N K
  m : DkA w mb E S2
  far : ∀ k, S1 k → ¬ S2 k
  inL : ∀ k, S1 k → A k
  inM : ∀ k, S2 k → A k
def Two (w : World) (lb mb : Nat) (D E : LkS) (N K : Nat) (A : Nat → Prop) : Prop := ∃ S1 S2, TwoG w lb mb D E N K A S1 S2
/-- In A and not v's. -/
def NotV (A : Nat → Prop) (v : Value) (k : Nat) : Prop := A k ∧ v.ownBlock ≠ some k
theorem dkb_of {N : Nat} {D : LkS} (h : DOk N D) (hN : N ≤ 80000) : DkB D D.W.length ∧ D.H.length ≤ 90000 := by
  have := h.few
  exact ⟨⟨fun e he => (h.inv.hm e he).1, fun e he => (h.inv.wm e he).1, by omega, by omega⟩, by omega⟩
theorem dkb_one {N : Nat} {D : LkS} (h : DOk N D) (hN : N ≤ 80000) : DkB D 1 := by
  have := h.few
  exact ⟨fun e he => (h.inv.hm e he).1, fun e he => (h.inv.wm e he).1, by omega, by omega⟩
section
variable {w w' : World} {lb mb : Nat} {D E : LkS} {N K : Nat} {A : Nat → Prop}
theorem Two.fr0 (h : Two w lb mb D E N K A) (hf : Fr w w' Nil) : Two w' lb mb D E N K A := by
  obtain ⟨S1, S2, h1, h2, h3, h4, h5⟩ := h
  exact ⟨S1, S2, h1.fr0 hf, h2.fr0 hf, h3, h4, h5⟩
theorem Two.not {A' : Nat → Prop} (h : Two w lb mb D E N K A) (hA : ∀ k, A k → k < w.heap.size → A' k) : Two w lb mb D E N K A' := by
  obtain ⟨S1, S2, h1, h2, h3, h4, h5⟩ := h
  exact ⟨S1, S2, h1, h2, h3, fun k hk => hA k (h4 k hk) (h1.lt k hk), fun k hk => hA k (h5 k hk) (h2.lt k hk)⟩
theorem Two.weak {A' : Nat → Prop} (h : Two w lb mb D E N K A) (hA : ∀ k, A k → A' k) : Two w lb mb D E N K A' := h.not fun k hk _ => hA k hk
theorem Two.ok (h : Two w lb mb D E N K A) : DOk N D := by
  obtain ⟨S1, S2, h1, h2, h3, h4, h5⟩ := h
  exact h1.ok
theorem Two.more {N' K' : Nat} (h : Two w lb mb D E N K A) (h1 : N ≤ N') (h2 : K ≤ K') : Two w lb mb D E N' K' A := by
  obtain ⟨S1, S2, a1, a2, a3, a4, a5⟩ := h
  exact ⟨S1, S2, ⟨a1.at_, ⟨a1.ok.inv, Nat.le_trans a1.ok.few h1, a1.ok.wf⟩, a1.few.more h2⟩, a2, a3, a4, a5⟩
theorem Two.u (h : Two w lb mb D E N K A) : LkU w lb D N K A := by
  obtain ⟨S1, S2, h1, h2, h3, h4, h5⟩ := h
  exact ⟨S1, h1, h4⟩
theorem Two.d (h : Two w lb mb D E N K A) : ∃ S2, DkA w mb E S2 := by
  obtain ⟨S1, S2, h1, h2, h3, h4, h5⟩ := h
  exact ⟨S2, h2⟩
theorem TwoG.turnL {D' : LkS} {S1 S2 S' : Nat → Prop} {N' K' : Nat} {A' : Nat → Prop} (g : TwoG w lb mb D E N K A S1 S2) (hT : LkT w' lb D' S' N' K') (hf : Fr w w' S1) (hn : ∀ k, S' k → S1 k ∨ w.heap.size ≤ k) (hA : ∀ k, w.heap.size ≤ k → S' k → A' k) (hA2 : ∀ k, k < w.heap.size → A k → A' k) : Two w' lb mb D' E N' K' A' :=
  ⟨S', S2, hT, g.m.fr hf fun k h2 h1 => g.far k h1 h2, fun k hk h2 => (hn k hk).elim (fun h1 => g.far k h1 h2) fun h1 => by have := g.m.lt k h2; omega,
    fun k hk => (hn k hk).elim (fun h1 => hA2 k (g.l.lt k h1) (g.inL k h1)) fun h1 => hA k h1 hk, fun k hk => hA2 k (g.m.lt k hk) (g.inM k hk)⟩
theorem TwoG.turnM {E' : LkS} {S1 S2 S' : Nat → Prop} (g : TwoG w lb mb D E N K A S1 S2) (hT : DkA w' mb E' S') (hf : Fr w w' S2) (hn : ∀ k, S' k → S2 k ∨ w.heap.size ≤ k) (hA : ∀ k, w.heap.size ≤ k → A k) : Two w' lb mb D E' N K A :=
  ⟨S1, S', ⟨g.l.at_.fr hf g.far, g.l.ok, g.l.few⟩, hT, fun k h1 hk => (hn k hk).elim (fun h2 => g.far k h1 h2) fun h2 => by have := g.l.lt k h1; omega,
    g.inL, fun k hk => (hn k hk).elim (g.inM k) (hA k)⟩
/-! ### what turns the program's -/
theorem Two.l_ask (h : Two w lb mb D E N K A) (hA : ∀ k, w.heap.size ≤ k → A k) (who : Int) (s : Spot) (m : Int) (hN : N ≤ 100000) (hK : K ≤ 1000000000) (hw : (Lit.int .i64 who).wf = true) (hs : SWf s) (hm : 0 ≤ m) :
    Calls Tryz.prog 10 #[lkp lb, .int .i64 who, spV s, .int .u8 m] w fun e w' => e = .returned (.tuple #[.bool (askL D who s m).1.1, .int .i64 (askL D who s m).1.2]) ∧ Two w' lb mb (askL D who s m).2 E (N + 1) (K + 4) A ∧ Fr w w' A := by
  obtain ⟨S1, S2, g⟩ := h
  exact (g.l.ask who s m hN hK hw hs hm).mono fun _ _ ⟨S', h1, h2, _, h4, h5⟩ => ⟨h1, g.turnL h2 h5 h4 (fun k hk _ => hA k hk) (fun _ _ h => h), h5.mono fun k _ hk => g.inL k hk⟩
theorem Two.l_free (h : Two w lb mb D E N K A) (who : Int) (s : Spot) (hN : N ≤ 100000) (hw : (Lit.int .i64 who).wf = true) (hs : SWf s) :
    Calls Tryz.prog 12 #[lkp lb, .int .i64 who, spV s] w fun e w' => ∃ ov, e = .returned (.tuple #[ov, .int .i64 (freeL D who s).1.2]) ∧ OwnInts w' 2 ov (freeL D who s).1.1 ∧ (∀ k, ov.ownBlock = some k → w.heap.size ≤ k) ∧ Two w' lb mb (freeL D who s).2 E N K (NotV A ov) ∧ Fr w w' A := by
  obtain ⟨S1, S2, g⟩ := h
  exact (g.l.free who s hN hw hs).mono fun _ _ ⟨ov, h1, h2, h3, h4, h5⟩ => ⟨ov, h1, h2, h3, g.turnL h4 h5 (fun k hk => .inl hk) (fun k hk h1 => absurd (g.l.lt k h1) (by omega)) (fun k hk h => ⟨h, fun e => by have := h3 k e; omega⟩), h5.mono fun k _ hk => g.inL k hk⟩
theorem Two.l_cancel (h : Two w lb mb D E N K A) (who : Int) (hN : N ≤ 100000) (hw : (Lit.int .i64 who).wf = true) :
    Calls Tryz.prog 13 #[lkp lb, .int .i64 who] w fun e w' => ∃ ov, e = .returned (.tuple #[ov, .int .i64 (cancelL D who).1.2]) ∧ OwnInts w' 2 ov (cancelL D who).1.1 ∧ (∀ k, ov.ownBlock = some k → w.heap.size ≤ k) ∧ Two w' lb mb (cancelL D who).2 E N K (NotV A ov) ∧ Fr w w' A := by
  obtain ⟨S1, S2, g⟩ := h
  exact (g.l.cancel who hN hw).mono fun _ _ ⟨ov, h1, h2, h3, h4, h5⟩ => ⟨ov, h1, h2, h3, g.turnL h4 h5 (fun k hk => .inl hk) (fun k hk h1 => absurd (g.l.lt k h1) (by omega)) (fun k hk h => ⟨h, fun e => by have := h3 k e; omega⟩), h5.mono fun k _ hk => g.inL k hk⟩
theorem Two.l_leave (h : Two w lb mb D E N K A) (who : Int) (hN : N ≤ 100000) (hw : (Lit.int .i64 who).wf = true) :
    Calls Tryz.prog 15 #[lkp lb, .int .i64 who] w fun e w' => ∃ ov, e = .returned ov ∧ OwnInts w' 2 ov (leaveL D who).1 ∧ (∀ k, ov.ownBlock = some k → w.heap.size ≤ k) ∧ Two w' lb mb (leaveL D who).2 E N K (NotV A ov) ∧ Fr w w' A := by
  obtain ⟨S1, S2, g⟩ := h
  exact (g.l.leave who hN hw).mono fun _ _ ⟨ov, h1, h2, h3, h4, h5⟩ => ⟨ov, h1, h2, h3, g.turnL h4 h5 (fun k hk => .inl hk) (fun k hk h1 => absurd (g.l.lt k h1) (by omega)) (fun k hk h => ⟨h, fun e => by have := h3 k e; omega⟩), h5.mono fun k _ hk => g.inL k hk⟩
/-! ### what turns the document's -/
theorem Two.m_ask {N2 : Nat} (h : Two w lb mb D E N K A) (hA : ∀ k, w.heap.size ≤ k → A k) (hE : DOk N2 E) (hN : N2 ≤ 80000) (who : Int) (s : Spot) (m : Int) (hm : 0 ≤ m) :
    Calls Tryz.prog 32 #[mkp mb, .int .i64 who, spV s, .int .u8 m] w fun e w' => e = .returned (.tuple #[.bool (askL E who s m).1.1, .int .i64 (askL E who s m).1.2]) ∧ Two w' lb mb D (askL E who s m).2 N K A ∧ Fr w w' A := by
  obtain ⟨S1, S2, g⟩ := h
  exact (rask_any who s hm w g.m (dkb_one hE hN)).mono fun _ _ ⟨h1, S', h2, h3, h4⟩ => ⟨h1, g.turnM h2 h3 h4 hA, h3.mono fun k _ hk => g.inM k hk⟩
theorem Two.m_free {N2 : Nat} (h : Two w lb mb D E N K A) (hA : ∀ k, w.heap.size ≤ k → A k) (hE : DOk N2 E) (hN : N2 ≤ 80000) (who : Int) (s : Spot) :
    Calls Tryz.prog 29 #[mkp mb, .int .i64 who, spV s] w fun e w' => ∃ ov, e = .returned (.tuple #[ov, .int .i64 (freeL E who s).1.2]) ∧ OwnInts w' 2 ov (freeL E who s).1.1 ∧ Two w' lb mb D (freeL E who s).2 N K A ∧ Fr w w' A := by
  obtain ⟨S1, S2, g⟩ := h
  exact (rfree_any who s w g.m (dkb_of hE hN).1).mono fun _ _ ⟨v, h1, S', h2, h3, h4, h5, _⟩ => ⟨v, h1, h2.1, g.turnM h3 h4 h5 hA, h4.mono fun k _ hk => g.inM k hk⟩
theorem Two.m_cancel {N2 : Nat} (h : Two w lb mb D E N K A) (hA : ∀ k, w.heap.size ≤ k → A k) (hE : DOk N2 E) (hN : N2 ≤ 80000) (who : Int) :
    Calls Tryz.prog 30 #[mkp mb, .int .i64 who] w fun e w' => ∃ ov, e = .returned (.tuple #[ov, .int .i64 (cancelL E who).1.2]) ∧ OwnInts w' 2 ov (cancelL E who).1.1 ∧ Two w' lb mb D (cancelL E who).2 N K A ∧ Fr w w' A := by
  obtain ⟨S1, S2, g⟩ := h
  exact (rcancel_any who w g.m (dkb_of hE hN).1).mono fun _ _ ⟨v, h1, S', h2, h3, h4, h5, _⟩ => ⟨v, h1, h2.1, g.turnM h3 h4 h5 hA, h4.mono fun k _ hk => g.inM k hk⟩
theorem Two.m_leave {N2 : Nat} (h : Two w lb mb D E N K A) (hA : ∀ k, w.heap.size ≤ k → A k) (hE : DOk N2 E) (hN : N2 ≤ 80000) (who : Int) :
    Calls Tryz.prog 31 #[mkp mb, .int .i64 who] w fun e w' => ∃ ov, e = .returned ov ∧ OwnInts w' 2 ov (leaveL E who).1 ∧ Two w' lb mb D (leaveL E who).2 N K A ∧ Fr w w' A := by
  obtain ⟨S1, S2, g⟩ := h
  exact (rleave_any who w g.m (dkb_of hE hN).1 (dkb_of hE hN).2).mono fun _ _ ⟨v, h1, S', h2, h3, h4, h5, _⟩ => ⟨v, h1, h2.1, g.turnM h3 h4 h5 hA, h4.mono fun k _ hk => g.inM k hk⟩
/-! ### what the document tells -/
theorem Two.m_held {N2 : Nat} (h : Two w lb mb D E N K A) (hE : DOk N2 E) (hN : N2 ≤ 80000) (who : Int) (s : Spot) :
    Calls Tryz.prog 40 #[mkp mb, .int .i64 who, spV s] w fun e w' => e = .returned (.int .u8 (heldL E.H who s)) ∧ Fr w w' Nil := by
  obtain ⟨S2, g⟩ := h.d
  exact rheld_any who s w g (by have := hE.few; omega)
theorem Two.m_used {N2 : Nat} (h : Two w lb mb D E N K A) (hE : DOk N2 E) (hN : N2 ≤ 80000) :
    Calls Tryz.prog 33 #[mkp mb] w fun e w' => e = .returned (.int .i64 (usedL E : Int)) ∧ Fr w w' Nil := by
  obtain ⟨S2, g⟩ := h.d
  exact rused_any w g (by have := hE.few; omega) (by have := hE.few; omega)
theorem Two.m_waits {N2 : Nat} (h : Two w lb mb D E N K A) (hE : DOk N2 E) (hN : N2 ≤ 80000) (who : Int) :
    Calls Tryz.prog 39 #[mkp mb, .int .i64 who] w fun e w' => e = .returned (.tuple #[spV (waitsL E who).1, .int .u8 (waitsL E who).2.1, .bool (waitsL E who).2.2]) ∧ Fr w w' Nil := by
  obtain ⟨S2, g⟩ := h.d
  exact rwaits_any who w g (by have := hE.few; omega)
theorem Two.m_queue {N2 : Nat} (h : Two w lb mb D E N K A) (hE : DOk N2 E) (hN : N2 ≤ 80000) (s : Spot) :
    Calls Tryz.prog 36 #[mkp mb, spV s] w fun e w' => ∃ v', e = .returned v' ∧ NewE w.heap.size w' v' (queueL E.H E.W s) ∧ Fr w w' Nil := by
  obtain ⟨S2, g⟩ := h.d
  exact rqueue_any s w g (by have := hE.few; omega) (by have := hE.few; omega)
theorem Two.m_spots {N2 : Nat} (h : Two w lb mb D E N K A) (hE : DOk N2 E) (hN : N2 ≤ 80000) (who : Int) :
    Calls Tryz.prog 28 #[mkp mb, .int .i64 who] w fun e w' => ∃ v, e = .returned v ∧ NewPs w.heap.size w' v (spotsL E.H who) ∧ Fr w w' Nil := by
  obtain ⟨S2, g⟩ := h.d
  exact rspots_any who w g (by have := hE.few; omega)
theorem Two.m_holders {N2 : Nat} (h : Two w lb mb D E N K A) (hE : DOk N2 E) (hN : N2 ≤ 80000) (s : Spot) :
    Calls Tryz.prog 35 #[mkp mb, spV s] w fun e w' => ∃ v', e = .returned v' ∧ NewE w.heap.size w' v' (rholdersL E.H s) ∧ Fr w w' Nil := by
  obtain ⟨S2, g⟩ := h.d
  exact rholders_any s w g (by have := hE.few; omega)
theorem Two.m_for {N2 : Nat} (h : Two w lb mb D E N K A) (hE : DOk N2 E) (hN : N2 ≤ 80000) (who : Int) :
    Calls Tryz.prog 37 #[mkp mb, .int .i64 who] w (NewI (forL E who) w) := by
  obtain ⟨S2, g⟩ := h.d
  rw [← rfor_eq hE.inv who]
  exact rfor_any who w g (dkb_of hE hN).1 (dkb_of hE hN).2 (by have := hE.few; omega)
/-- Both new. -/
theorem two_new {w1 w2 : World} {most : Int} {S1 S2 : Nat → Prop} (h1 : LkT w1 lb ⟨max 0 most, [], []⟩ S1 0 3) (h2 : ∀ k, S1 k → w.heap.size ≤ k) (h3 : DkA w2 mb ⟨max 0 most, [], []⟩ S2) (h4 : ∀ k, S2 k → w1.heap.size ≤ k) (hf : Fr w w1 Nil) (hf2 : Fr w1 w2 Nil) : Two w2 lb mb ⟨max 0 most, [], []⟩ ⟨max 0 most, [], []⟩ 0 3 (Low w.heap.size) :=
  ⟨S1, S2, h1.fr0 hf2, h3, fun k hk h => by have := h1.lt k hk; have := h4 k h; omega, h2, fun k hk => Nat.le_trans hf.size (h4 k hk)⟩
end
end Go.Proofs.YtokeciekncincabGreat
namespace Go.Proofs.YtokeciekncincabGreat
open Go Go.RowKit Go.Maps

def firstS : List Spot → Spot → Spot
  | [], s => s
  | a :: _, _ => a
/-- What one call leaves, by its kind modulo ten; nine gives the first spot free that one holds. -/
def doF (kd : Int) (D : LkS) (who : Int) (s : Spot) (m : Int) : LkS := doKd kd D who (if kd = 9 then firstS (spotsL D.H who) s else s) m
theorem doF_not {kd : Int} (h : kd ≠ 9) (D : LkS) (who : Int) (s : Spot) (m : Int) : doF kd D who s m = doKd kd D who s m := by unfold doF; rw [if_neg h]
theorem doF_nine (D : LkS) (who : Int) (s : Spot) (m : Int) : doF 9 D who s m = (freeL D who (firstS (spotsL D.H who) s)).2 := by
  unfold doF
  rw [if_pos rfl]
  exact doKd_free (.inr rfl) _ _ _ _
theorem first_wf {N : Nat} {D : LkS} (h : DOk N D) (who : Int) {s : Spot} (hs : SWf s) : SWf (firstS (spotsL D.H who) s) := by
  cases hh : spotsL D.H who with
  | nil => exact hs
  | cons a l =>
    obtain ⟨e, he, _, h3⟩ := ((spotsL_is D.H who).2 a).1 (by rw [hh]; exact List.mem_cons_self)
    show SWf a
    rw [← h3]
    exact (h.wf.1 e he).2
/-- Behind B, and none of these. -/
def OutA (B : Nat) (l : List Nat) (k : Nat) : Prop := B ≤ k ∧ k ∉ l
def DoesRet (w : World) (lb mb : Nat) (D' : LkS) (N K B : Nat) (e : Ending) (w' : World) : Prop := e = .returned (.bool true) ∧ Two w' lb mb D' D' (N + 1) (K + 4) (Low B) ∧ Fr w w' (Low B)
theorem does_fin {w w1 w2 : World} {lb mb : Nat} {D' D2 : LkS} {N K B N1 K1 : Nat} {l : List Nat} {A : Nat → Prop} (hD : D2 = D') (h : Two w2 lb mb D2 D2 N1 K1 A) (hA : ∀ k, A k → OutA B l k) (h1 : N1 ≤ N + 1) (h2 : K1 ≤ K + 4) (hf : Fr w w1 (Low B)) (hf2 : Fr w1 w2 Nil) : DoesRet w lb mb D' N K B (.returned (.bool true)) w2 := by
  subst hD
  exact ⟨rfl, (h.more h1 h2).weak fun k hk => (hA k hk).1, hf.trans0 hf2⟩
theorem outA_low {B : Nat} {l : List Nat} : ∀ k, OutA B l k → Low B k := fun _ h => h.1
theorem notv_out {A : Nat → Prop} {v : Value} : ∀ k, NotV A v k → A k := fun _ h => h.1
set_option maxRecDepth 100000 in
set_option maxHeartbeats 8000000 in
theorem ldoes_any {w : World} {lb mb : Nat} {D : LkS} {N K B : Nat} {kc who m : Int} {s : Spot} (h : Two w lb mb D D N K (Low B)) (hB : B ≤ w.heap.size) (hN : N ≤ 50000) (hK : K ≤ 1000000000) (okw : (Lit.int .i64 who).wf = true) (oks : SWf s) (okm : 0 ≤ m) :
    Calls Tryz.prog 8 #[lkp lb, mkp mb, .agg #[.int .u8 kc, .int .i64 who, .int .i64 s.1, .bool s.2.1, .int .i64 s.2.2, .int .u8 m]] w (DoesRet w lb mb (doF (kc.tmod 10) D who s m) N K B) := by
  obtain ⟨R, hR⟩ : ∃ R, doF (kc.tmod 10) D who s m = R := ⟨_, rfl⟩
  rw [hR]
  obtain ⟨w0, hw0⟩ : ∃ w0, w.alloc (.cells #[.int .u8 kc, .int .i64 who, .int .i64 s.1, .bool s.2.1, .int .i64 s.2.2, .int .u8 m] 33) = w0 := ⟨_, rfl⟩
  have hf0 : Fr w w0 Nil := by rw [← hw0]; exact (Fr.refl w Nil).alloc _
  have hb0 : Bk w0 w.heap.size 33 [.int .u8 kc, .int .i64 who, .int .i64 s.1, .bool s.2.1, .int .i64 s.2.2, .int .u8 m] := by rw [← hw0]; exact Bk.new w _ _
  have hz0 : w0.heap.size = w.heap.size + 1 := by rw [← hw0]; exact World.size_alloc _ _
  have x0 : w0.cell? ⟨w.heap.size, 0, none⟩ = some (.int .u8 kc) := hb0.cell 0
  have x1 : w0.cell? ⟨w.heap.size, 1, none⟩ = some (.int .i64 who) := hb0.cell 1
  have x2 : w0.cell? ⟨w.heap.size, 2, none⟩ = some (.int .i64 s.1) := hb0.cell 2
  have x3 : w0.cell? ⟨w.heap.size, 3, none⟩ = some (.bool s.2.1) := hb0.cell 3
  have x4 : w0.cell? ⟨w.heap.size, 4, none⟩ = some (.int .i64 s.2.2) := hb0.cell 4
  have x5 : w0.cell? ⟨w.heap.size, 5, none⟩ = some (.int .u8 m) := hb0.cell 5
  obtain ⟨kd, hkd⟩ : ∃ kd : Int, kc.tmod 10 = kd := ⟨_, rfl⟩
  rw [hkd] at hR
  have HR := Lib.hid hR
  have HOK := Lib.hid h.ok
  have HU0 : Hid (Two w0 lb mb D D N K (OutA B [w.heap.size])) := (h.not fun k h1 h2 => (⟨h1, by simp; omega⟩ : OutA B [w.heap.size] k)).fr0 hf0
  have HA0 : Hid (∀ k, w0.heap.size ≤ k → OutA B [w.heap.size] k) := fun k hk => ⟨by omega, by simp; omega⟩
  have HF0 : Hid (Fr w w0 (Low B)) := hf0.of_nil
  have HB0 := Lib.hid hb0
  have HZ0 := Lib.hid hz0
  have HBB := Lib.hid hB
  have OKW := Lib.hid okw
  have OKS := Lib.hid oks
  have OKM := Lib.hid okm
  have hN1 : N ≤ 100000 := by omega
  have hN8 : N ≤ 80000 := by omega
  have HB5 : Hid (∀ k, w.heap.size ≤ k → B ≤ k) := fun k hk => by omega
  clear hf0 hb0 hz0 hR h hB okw oks okm
  go_enter Tryz.func8, Tryz.ntmps8
  rcases kinds kd with (h6 | h9 | h7 | h8) | ⟨h6, h9, h7, h8⟩
  · subst h6
    clear OKM
    obtain ⟨w1, hw1⟩ : ∃ w1, w0.alloc (.cells #[.int .i64 s.1, .bool s.2.1, .int .i64 s.2.2] 30) = w1 := ⟨_, rfl⟩
    have hf1 : Fr w0 w1 Nil := by rw [← hw1]; exact (Fr.refl w0 Nil).alloc _
    have hb1 : Bk w1 w0.heap.size 30 [.int .i64 s.1, .bool s.2.1, .int .i64 s.2.2] := by rw [← hw1]; exact Bk.new w0 _ _
    have hz1 : w1.heap.size = w0.heap.size + 1 := by rw [← hw1]; exact World.size_alloc _ _
    have HX1 : Hid (Bk w1 w.heap.size 33 [.int .u8 kc, .int .i64 who, .int .i64 s.1, .bool s.2.1, .int .i64 s.2.2, .int .u8 m]) := HB0.out.fr hf1 fun h => h
    have HU1 : Hid (Two w1 lb mb D D N K (OutA B [w.heap.size, w0.heap.size])) := (HU0.out.not fun k h1 h2 => (⟨h1.1, by have h3 := h1.2; simp at h3 ⊢; omega⟩ : OutA B [w.heap.size, w0.heap.size] k)).fr0 hf1
    have HF1 : Hid (Fr w w1 (Low B)) := HF0.out.trans0 hf1
    have HZ1 := Lib.hid hz1
    have HS1 := Lib.hid hb1
    have y1 : w1.cell? ⟨w.heap.size, 1, none⟩ = some (.int .i64 who) := HX1.out.cell 1
    clear hf1 hb1 hz1
    go_wp2_with fail
    try rw [hw1]
    refine (HU1.out.m_spots HOK.out hN8 who).mono ?_
    rintro e w2 ⟨av, rfl, hps, hf2⟩
    obtain ⟨aa, ac, rfl⟩ := hps.1.shape
    have HU2 := Lib.hid (HU1.out.fr0 hf2)
    have HF2 := Lib.hid (HF1.out.trans0 hf2)
    have HX2 := Lib.hid (HX1.out.fr hf2 fun h => h)
    have HS2 := Lib.hid (HS1.out.fr hf2 fun h => h)
    obtain ⟨n, hn⟩ : ∃ n, (spotsL D.H who).length = n := ⟨_, rfl⟩
    rw [hn] at hps ⊢
    have HPS := Lib.hid hps.1
    have HNN := Lib.hid hn
    have HZ2 : Hid (w0.heap.size + 1 ≤ w2.heap.size) := by have h9 : w0.heap.size + 1 ≤ w2.heap.size := (by have h1 := HZ1.out; have h2 := hf2.size; omega); exact h9
    clear hn hps hf2 HU1 HF1 HX1 HS1 x0 x1 x2 x3 x4 x5 y1 hw1
    have x0 : w2.cell? ⟨w.heap.size, 0, none⟩ = some (.int .u8 kc) := HX2.out.cell 0
    have HUX := HU2
    have HFX := HF2
    have HXX := HX2
    have HSX := HS2
    have HZX := HZ2
    have OKP := OKS
    have y1 : w2.cell? ⟨w.heap.size, 1, none⟩ = some (.int .i64 who) := HXX.out.cell 1
    have z0 : w2.cell? ⟨w0.heap.size, 0, none⟩ = some (.int .i64 s.1) := HSX.out.cell 0
    have z1 : w2.cell? ⟨w0.heap.size, 1, none⟩ = some (.bool s.2.1) := HSX.out.cell 1
    have z2 : w2.cell? ⟨w0.heap.size, 2, none⟩ = some (.int .i64 s.2.2) := HSX.out.cell 2
    go_wp2_with fail
    refine (HUX.out.l_free who s hN1 OKW.out OKP.out).mono ?_
    rintro e w3 ⟨ov, rfl, ho, hfr, hU, hf⟩
    obtain ⟨oa, oc, rfl⟩ := ho.shape
    have HA3 : Hid (∀ k, w3.heap.size ≤ k → NotV (OutA B [w.heap.size, w0.heap.size]) (.slice oa (freeL D who s).1.1.length oc) k) := fun k hk => ⟨⟨by have h1 := HZX.out; have h2 := hf.size; have h3 := HZ0.out; exact HB5.out k (by omega), by simp; have h1 := HZX.out; have h2 := hf.size; have h3 := HZ0.out; omega⟩, fun e => by have := ho.lt k e; omega⟩
    have HU3 := Lib.hid hU
    have HF3 := Lib.hid (HFX.out.transS (hf.mono fun k _ h => outA_low k h))
    have HX3 := Lib.hid (HXX.out.fr hf (fun h => h.2 (by simp)))
    have HS3 := Lib.hid (HSX.out.fr hf (fun h => h.2 (by simp)))
    have HO3 := Lib.hid ho
    clear ho hfr hU hf y1 z0 z1 z2
    have y1 : w3.cell? ⟨w.heap.size, 1, none⟩ = some (.int .i64 who) := HX3.out.cell 1
    have z0 : w3.cell? ⟨w0.heap.size, 0, none⟩ = some (.int .i64 s.1) := HS3.out.cell 0
    have z1 : w3.cell? ⟨w0.heap.size, 1, none⟩ = some (.bool s.2.1) := HS3.out.cell 1
    have z2 : w3.cell? ⟨w0.heap.size, 2, none⟩ = some (.int .i64 s.2.2) := HS3.out.cell 2
    go_wp2_with fail
    refine (HU3.out.m_free HA3.out HOK.out hN8 who s).mono ?_
    rintro e w4 ⟨ov2, rfl, ho2, hU, hf⟩
    obtain ⟨oa2, oc2, rfl⟩ := ho2.shape
    have HU4 := Lib.hid hU
    have HF4 := Lib.hid (HF3.out.transS (hf.mono fun k _ h => outA_low k (notv_out k h)))
    have hlen := free_len HOK.out who s hN1
    have cS := sameInts_any _ _ _ _ w4 (HO3.out.fr hf fun k hk h => h.2 hk).at ho2.at (by omega) (by omega)
    rw [decide_eq_true rfl] at cS
    have HD2 : Hid ((freeL D who s).2 = R) := by show _ = _; rw [← HR.out, doF_not (by decide), doKd_free (.inl rfl)]
    clear ho2 hU hf y1 z0 z1 z2
    generalize freeL D who s = fr at *
    have hee : (fr.1.2 == fr.1.2) = true := by simp
    go_wp2_with fail
    refine cS.mono ?_
    rintro e w5 ⟨rfl, hf5⟩
    have HEND : Hid (DoesRet w lb mb R N K B (.returned (.bool true)) w5) := does_fin HD2.out (HU4.out.fr0 hf5) (fun k h => notv_out k h) (by omega) (by omega) HF4.out hf5
    go_wp2_with fail
    go_ret
    exact HEND.out
  · subst h9
    clear OKM
    obtain ⟨w1, hw1⟩ : ∃ w1, w0.alloc (.cells #[.int .i64 s.1, .bool s.2.1, .int .i64 s.2.2] 30) = w1 := ⟨_, rfl⟩
    have hf1 : Fr w0 w1 Nil := by rw [← hw1]; exact (Fr.refl w0 Nil).alloc _
    have hb1 : Bk w1 w0.heap.size 30 [.int .i64 s.1, .bool s.2.1, .int .i64 s.2.2] := by rw [← hw1]; exact Bk.new w0 _ _
    have hz1 : w1.heap.size = w0.heap.size + 1 := by rw [← hw1]; exact World.size_alloc _ _
    have HX1 : Hid (Bk w1 w.heap.size 33 [.int .u8 kc, .int .i64 who, .int .i64 s.1, .bool s.2.1, .int .i64 s.2.2, .int .u8 m]) := HB0.out.fr hf1 fun h => h
    have HU1 : Hid (Two w1 lb mb D D N K (OutA B [w.heap.size, w0.heap.size])) := (HU0.out.not fun k h1 h2 => (⟨h1.1, by have h3 := h1.2; simp at h3 ⊢; omega⟩ : OutA B [w.heap.size, w0.heap.size] k)).fr0 hf1
    have HF1 : Hid (Fr w w1 (Low B)) := HF0.out.trans0 hf1
    have HZ1 := Lib.hid hz1
    have HS1 := Lib.hid hb1
    have y1 : w1.cell? ⟨w.heap.size, 1, none⟩ = some (.int .i64 who) := HX1.out.cell 1
    clear hf1 hb1 hz1
    go_wp2_with fail
    try rw [hw1]
    refine (HU1.out.m_spots HOK.out hN8 who).mono ?_
    rintro e w2 ⟨av, rfl, hps, hf2⟩
    obtain ⟨aa, ac, rfl⟩ := hps.1.shape
    have HU2 := Lib.hid (HU1.out.fr0 hf2)
    have HF2 := Lib.hid (HF1.out.trans0 hf2)
    have HX2 := Lib.hid (HX1.out.fr hf2 fun h => h)
    have HS2 := Lib.hid (HS1.out.fr hf2 fun h => h)
    obtain ⟨n, hn⟩ : ∃ n, (spotsL D.H who).length = n := ⟨_, rfl⟩
    rw [hn] at hps ⊢
    have HPS := Lib.hid hps.1
    have HNN := Lib.hid hn
    have HZ2 : Hid (w0.heap.size + 1 ≤ w2.heap.size) := by have h9 : w0.heap.size + 1 ≤ w2.heap.size := (by have h1 := HZ1.out; have h2 := hf2.size; omega); exact h9
    clear hn hps hf2 HU1 HF1 HX1 HS1 x0 x1 x2 x3 x4 x5 y1 hw1
    have x0 : w2.cell? ⟨w.heap.size, 0, none⟩ = some (.int .u8 kc) := HX2.out.cell 0
    obtain ⟨sp, hsp⟩ : ∃ sp, firstS (spotsL D.H who) s = sp := ⟨_, rfl⟩
    have OKP : Hid (SWf sp) := by
      have h9 : SWf sp := by rw [← hsp]; exact first_wf HOK.out who OKS.out
      exact h9
    have HRN : Hid ((freeL D who sp).2 = R) := by
      show _ = _
      rw [← HR.out, doF_nine, hsp]
    cases hl : spotsL D.H who with
    | nil =>
      rw [hl] at hsp
      have h2 : s = sp := hsp
      subst h2
      have h3 := HNN.out
      rw [hl] at h3
      subst h3
      have HUX := HU2
      have HFX := HF2
      have HXX := HX2
      have HSX := HS2
      have HZX := HZ2
      clear hsp hl
      have y1 : w2.cell? ⟨w.heap.size, 1, none⟩ = some (.int .i64 who) := HXX.out.cell 1
      have z0 : w2.cell? ⟨w0.heap.size, 0, none⟩ = some (.int .i64 s.1) := HSX.out.cell 0
      have z1 : w2.cell? ⟨w0.heap.size, 1, none⟩ = some (.bool s.2.1) := HSX.out.cell 1
      have z2 : w2.cell? ⟨w0.heap.size, 2, none⟩ = some (.int .i64 s.2.2) := HSX.out.cell 2
      go_wp2_with fail
      refine (HUX.out.l_free who s hN1 OKW.out OKP.out).mono ?_
      rintro e w3 ⟨ov, rfl, ho, hfr, hU, hf⟩
      obtain ⟨oa, oc, rfl⟩ := ho.shape
      have HA3 : Hid (∀ k, w3.heap.size ≤ k → NotV (OutA B [w.heap.size, w0.heap.size]) (.slice oa (freeL D who s).1.1.length oc) k) := fun k hk => ⟨⟨by have h1 := HZX.out; have h2 := hf.size; have h3 := HZ0.out; exact HB5.out k (by omega), by simp; have h1 := HZX.out; have h2 := hf.size; have h3 := HZ0.out; omega⟩, fun e => by have := ho.lt k e; omega⟩
      have HU3 := Lib.hid hU
      have HF3 := Lib.hid (HFX.out.transS (hf.mono fun k _ h => outA_low k h))
      have HX3 := Lib.hid (HXX.out.fr hf (fun h => h.2 (by simp)))
      have HS3 := Lib.hid (HSX.out.fr hf (fun h => h.2 (by simp)))
      have HO3 := Lib.hid ho
      clear ho hfr hU hf y1 z0 z1 z2
      have y1 : w3.cell? ⟨w.heap.size, 1, none⟩ = some (.int .i64 who) := HX3.out.cell 1
      have z0 : w3.cell? ⟨w0.heap.size, 0, none⟩ = some (.int .i64 s.1) := HS3.out.cell 0
      have z1 : w3.cell? ⟨w0.heap.size, 1, none⟩ = some (.bool s.2.1) := HS3.out.cell 1
      have z2 : w3.cell? ⟨w0.heap.size, 2, none⟩ = some (.int .i64 s.2.2) := HS3.out.cell 2
      go_wp2_with fail
      refine (HU3.out.m_free HA3.out HOK.out hN8 who s).mono ?_
      rintro e w4 ⟨ov2, rfl, ho2, hU, hf⟩
      obtain ⟨oa2, oc2, rfl⟩ := ho2.shape
      have HU4 := Lib.hid hU
      have HF4 := Lib.hid (HF3.out.transS (hf.mono fun k _ h => outA_low k (notv_out k h)))
      have hlen := free_len HOK.out who s hN1
      have cS := sameInts_any _ _ _ _ w4 (HO3.out.fr hf fun k hk h => h.2 hk).at ho2.at (by omega) (by omega)
      rw [decide_eq_true rfl] at cS
      have HD2 : Hid ((freeL D who s).2 = R) := HRN.out
      clear ho2 hU hf y1 z0 z1 z2
      generalize freeL D who s = fr at *
      have hee : (fr.1.2 == fr.1.2) = true := by simp
      go_wp2_with fail
      refine cS.mono ?_
      rintro e w5 ⟨rfl, hf5⟩
      have HEND : Hid (DoesRet w lb mb R N K B (.returned (.bool true)) w5) := does_fin HD2.out (HU4.out.fr0 hf5) (fun k h => notv_out k h) (by omega) (by omega) HF4.out hf5
      go_wp2_with fail
      go_ret
      exact HEND.out
    | cons a l =>
      rw [hl] at hsp
      have h2 : a = sp := hsp
      subst h2
      have h3 := HNN.out
      rw [hl] at h3 HPS
      obtain ⟨b, cap, hv, _, hcl⟩ := HPS.out.form (by simp)
      simp only [Value.slice.injEq] at hv
      obtain ⟨rfl, hnl, rfl⟩ := hv
      obtain ⟨p0, p1, p2⟩ := hcl 0 a rfl
      simp only [Nat.zero_mul, Nat.zero_add] at p0 p1 p2
      rw [List.length_cons] at h3
      have hln : (0 : Int) < (n : Int) := by omega
      have hln2 : 0 < n := by omega
      clear h3 hnl hcl hsp hl
      obtain ⟨w9, hw9⟩ : ∃ w9, ((w2.setCell ⟨w0.heap.size, 0, none⟩ (.int .i64 a.1)).setCell ⟨w0.heap.size, 1, none⟩ (.bool a.2.1)).setCell ⟨w0.heap.size, 2, none⟩ (.int .i64 a.2.2) = w9 := ⟨_, rfl⟩
      have HSX : Hid (Bk w9 w0.heap.size 30 [.int .i64 a.1, .bool a.2.1, .int .i64 a.2.2]) := by
        have h9 : Bk w9 w0.heap.size 30 [.int .i64 a.1, .bool a.2.1, .int .i64 a.2.2] := by rw [← hw9]; exact ((HS2.out.set 0 _).set 1 _).set 2 _
        exact h9
      have HFC : Hid (Fr w2 w9 (fun k => k = w0.heap.size)) := by
        have h9 : Fr w2 w9 (fun k => k = w0.heap.size) := by rw [← hw9]; exact ((Fr.store _ _ _ _).transS (Fr.store _ _ _ _)).transS (Fr.store _ _ _ _)
        exact h9
      have hfz : w2.frozen? ⟨w0.heap.size, 0, none⟩ = false := HS2.out.free 0
      have hc0 : w2.cell? ⟨w0.heap.size, 0, none⟩ = some (.int .i64 s.1) := HS2.out.cell 0
      have hc1 : w2.cell? ⟨w0.heap.size, 1, none⟩ = some (.bool s.2.1) := HS2.out.cell 1
      have hc2 : w2.cell? ⟨w0.heap.size, 2, none⟩ = some (.int .i64 s.2.2) := HS2.out.cell 2
      have hfz1 : w2.frozen? ⟨w0.heap.size, 1, none⟩ = false := HS2.out.free 1
      have hfz2 : w2.frozen? ⟨w0.heap.size, 2, none⟩ = false := HS2.out.free 2
      have HUX : Hid (Two w9 lb mb D D N K (OutA B [w.heap.size, w0.heap.size])) := by
        obtain ⟨S1, S2, g⟩ := HU2.out
        exact ⟨S1, S2, ⟨g.l.at_.fr HFC.out fun k hk h => (g.inL k hk).2 (by rw [h]; simp), g.l.ok, g.l.few⟩, g.m.fr HFC.out fun k hk h => (g.inM k hk).2 (by rw [h]; simp), g.far, g.inL, g.inM⟩
      have HFX : Hid (Fr w w9 (Low B)) := HF2.out.transS (HFC.out.mono fun k hk h => by have h1 := HZ0.out; have h2 : k = w0.heap.size := h; show B ≤ k; have h3 := HB5.out k (by omega); exact h3)
      have HXX : Hid (Bk w9 w.heap.size 33 [.int .u8 kc, .int .i64 who, .int .i64 s.1, .bool s.2.1, .int .i64 s.2.2, .int .u8 m]) := HX2.out.fr HFC.out fun h => by have h1 := HZ0.out; have h2 : w.heap.size = w0.heap.size := h; omega
      have HZX : Hid (w0.heap.size + 1 ≤ w9.heap.size) := by have h9 : w0.heap.size + 1 ≤ w9.heap.size := (by have h1 := HZ2.out; have h2 := HFC.out.size; omega); exact h9
      have y1 : w9.cell? ⟨w.heap.size, 1, none⟩ = some (.int .i64 who) := HXX.out.cell 1
      have z0 : w9.cell? ⟨w0.heap.size, 0, none⟩ = some (.int .i64 a.1) := HSX.out.cell 0
      have z1 : w9.cell? ⟨w0.heap.size, 1, none⟩ = some (.bool a.2.1) := HSX.out.cell 1
      have z2 : w9.cell? ⟨w0.heap.size, 2, none⟩ = some (.int .i64 a.2.2) := HSX.out.cell 2
      go_wp2_with fail
      refine (HUX.out.l_free who a hN1 OKW.out OKP.out).mono ?_
      rintro e w3 ⟨ov, rfl, ho, hfr, hU, hf⟩
      obtain ⟨oa, oc, rfl⟩ := ho.shape
      have HA3 : Hid (∀ k, w3.heap.size ≤ k → NotV (OutA B [w.heap.size, w0.heap.size]) (.slice oa (freeL D who a).1.1.length oc) k) := fun k hk => ⟨⟨by have h1 := HZX.out; have h2 := hf.size; have h3 := HZ0.out; exact HB5.out k (by omega), by simp; have h1 := HZX.out; have h2 := hf.size; have h3 := HZ0.out; omega⟩, fun e => by have := ho.lt k e; omega⟩
      have HU3 := Lib.hid hU
      have HF3 := Lib.hid (HFX.out.transS (hf.mono fun k _ h => outA_low k h))
      have HX3 := Lib.hid (HXX.out.fr hf (fun h => h.2 (by simp)))
      have HS3 := Lib.hid (HSX.out.fr hf (fun h => h.2 (by simp)))
      have HO3 := Lib.hid ho
      clear ho hfr hU hf y1 z0 z1 z2
      have y1 : w3.cell? ⟨w.heap.size, 1, none⟩ = some (.int .i64 who) := HX3.out.cell 1
      have z0 : w3.cell? ⟨w0.heap.size, 0, none⟩ = some (.int .i64 a.1) := HS3.out.cell 0
      have z1 : w3.cell? ⟨w0.heap.size, 1, none⟩ = some (.bool a.2.1) := HS3.out.cell 1
      have z2 : w3.cell? ⟨w0.heap.size, 2, none⟩ = some (.int .i64 a.2.2) := HS3.out.cell 2
      go_wp2_with fail
      refine (HU3.out.m_free HA3.out HOK.out hN8 who a).mono ?_
      rintro e w4 ⟨ov2, rfl, ho2, hU, hf⟩
      obtain ⟨oa2, oc2, rfl⟩ := ho2.shape
      have HU4 := Lib.hid hU
      have HF4 := Lib.hid (HF3.out.transS (hf.mono fun k _ h => outA_low k (notv_out k h)))
      have hlen := free_len HOK.out who a hN1
      have cS := sameInts_any _ _ _ _ w4 (HO3.out.fr hf fun k hk h => h.2 hk).at ho2.at (by omega) (by omega)
      rw [decide_eq_true rfl] at cS
      have HD2 : Hid ((freeL D who a).2 = R) := HRN.out
      clear ho2 hU hf y1 z0 z1 z2
      generalize freeL D who a = fr at *
      have hee : (fr.1.2 == fr.1.2) = true := by simp
      go_wp2_with fail
      refine cS.mono ?_
      rintro e w5 ⟨rfl, hf5⟩
      have HEND : Hid (DoesRet w lb mb R N K B (.returned (.bool true)) w5) := does_fin HD2.out (HU4.out.fr0 hf5) (fun k h => notv_out k h) (by omega) (by omega) HF4.out hf5
      go_wp2_with fail
      go_ret
      exact HEND.out
  · subst h7
    clear OKM OKS
    go_wp2_with fail
    refine (HU0.out.l_cancel who hN1 OKW.out).mono ?_
    rintro e w3 ⟨ov, rfl, ho, hfr, hU, hf⟩
    obtain ⟨oa, oc, rfl⟩ := ho.shape
    have HA3 : Hid (∀ k, w3.heap.size ≤ k → NotV (OutA B [w.heap.size]) (.slice oa ((cancelL D who).1.1).length oc) k) := fun k hk => ⟨⟨by have h2 := hf.size; have h3 := HZ0.out; exact HB5.out k (by omega), by simp; have h2 := hf.size; have h3 := HZ0.out; omega⟩, fun e => by have := ho.lt k e; omega⟩
    have HU3 := Lib.hid hU
    have HF3 := Lib.hid (HF0.out.transS (hf.mono fun k _ h => outA_low k h))
    have HX3 := Lib.hid (HB0.out.fr hf (fun h => h.2 (by simp)))
    have HO3 := Lib.hid ho
    clear ho hfr hU hf x0 x1 x2 x3 x4 x5
    have y1 : w3.cell? ⟨w.heap.size, 1, none⟩ = some (.int .i64 who) := HX3.out.cell 1
    go_wp2_with fail
    refine (HU3.out.m_cancel HA3.out HOK.out hN8 who).mono ?_
    rintro e w4 ⟨ov2, rfl, ho2, hU, hf⟩
    obtain ⟨oa2, oc2, rfl⟩ := ho2.shape
    have HU4 := Lib.hid hU
    have HF4 := Lib.hid (HF3.out.transS (hf.mono fun k _ h => outA_low k (notv_out k h)))
    have hlen := cancel_len HOK.out who hN1
    have cS := sameInts_any _ _ _ _ w4 (HO3.out.fr hf fun k hk h => h.2 hk).at ho2.at (by omega) (by omega)
    rw [decide_eq_true rfl] at cS
    have HD2 : Hid ((cancelL D who).2 = R) := by show _ = _; rw [← HR.out, doF_not (by decide), doKd_cancel]
    clear ho2 hU hf y1
    generalize cancelL D who = fr at *
    have hee : (fr.1.2 == fr.1.2) = true := by simp
    go_wp2_with fail
    refine cS.mono ?_
    rintro e w5 ⟨rfl, hf5⟩
    have HEND : Hid (DoesRet w lb mb R N K B (.returned (.bool true)) w5) := does_fin HD2.out (HU4.out.fr0 hf5) (fun k h => notv_out k h) (by omega) (by omega) HF4.out hf5
    go_wp2_with fail
    go_ret
    exact HEND.out
  · subst h8
    clear OKM OKS
    have HA1 : Hid (∀ k, w0.drew.heap.size ≤ k → OutA B [w.heap.size] k) := HA0.out
    have k1 : ∀ w', KeptR (OutA B [w.heap.size]) w0 w' → w'.cell? ⟨w.heap.size, 1, none⟩ = some (.int .i64 who) := KeptR.cell x1 (fun h => h.2 (by simp))
    go_wp2_with fail
    refine wp_region_sink 9 (KeptR (OutA B [w.heap.size]) w0) (by kernel_rfl) ?_
    have hSa : KeptR (OutA B [w.heap.size]) w0 w0.drew := (KeptN.start w0).weak _
    refine tk 0 hSa ?_
    refine tk 1 hSa ?_
    try simp only [Act.put, sA, sB, sC]
    refine tk 2 hSa ?_ (hy := by intro _ w; have ck1 := k1 _ w; go_simp <;> with_reducible rfl)
    try simp only [Act.put, sA, sB, sC]
    refine tk 4 hSa ?_
    refine tk 5 hSa ?_
    try simp only [Act.put, sA, sB, sC]
    refine tk 6 hSa ?_ (hy := by intro _ w; have ck1 := k1 _ w; go_simp <;> with_reducible rfl)
    try simp only [Act.put, sA, sB, sC]
    refine on1 3 fun K hK => ?_
    go_simp
    refine ((HU0.out.fr0 (KeptN.start w0)).l_leave who hN1 OKW.out).mono ?_
    rintro e w3 ⟨ov, rfl, ho, hfr, hU, hf⟩
    obtain ⟨oa, oc, rfl⟩ := ho.shape
    have hA3 : ∀ k, w3.heap.size ≤ k → NotV (OutA B [w.heap.size]) (.slice oa (leaveL D who).1.length oc) k := fun k hk => ⟨HA1.out k (Nat.le_trans hf.size hk), fun e => by have := ho.lt k e; omega⟩
    have hSb : KeptR (OutA B [w.heap.size]) w0 w3 := Fr.transS hSa hf
    refine hK.out _ _ hSb ?_
    clear hK K
    try simp only [Act.put, sA, sB, sC]
    refine on1 7 fun K hK => ?_
    go_simp
    refine (hU.m_leave hA3 HOK.out hN8 who).mono ?_
    rintro e w4 ⟨ov2, rfl, ho2, hU4, hf4⟩
    obtain ⟨oa2, oc2, rfl⟩ := ho2.shape
    have hSc : KeptR (OutA B [w.heap.size]) w0 w4 := Fr.transS hSb (hf4.mono fun k _ h => notv_out k h)
    refine hK.out _ _ hSc ?_
    clear hK K
    try simp only [Act.put, sA, sB, sC]
    have hlen := leave_len HOK.out who hN1
    have cS := sameInts_any _ _ _ _ w4 (ho.fr hf4 fun k hk h => h.2 hk).at ho2.at (by omega) (by omega)
    rw [decide_eq_true rfl] at cS
    refine on1 8 fun K hK => ?_
    go_simp
    refine cS.mono ?_
    rintro e w5 ⟨rfl, hf5⟩
    have hSd : KeptR (OutA B [w.heap.size]) w0 w5 := Fr.trans0 hSc hf5
    refine hK.out _ _ hSd ?_
    clear hK K
    try simp only [Act.put, sA, sB, sC]
    refine wpAnyS_last (i := 9) rfl (by kernel_rfl) (by decide) (by kernel_rfl) (by rfl) fun K hK => ?_
    go_simp
    refine hK.out _ _ ?_
    clear hK K
    have HEND : Hid (DoesRet w lb mb R N K B (.returned (.bool true)) w5) := does_fin (by rw [← HR.out, doF_not (by decide), doKd_leave]) (hU4.fr0 hf5) (fun k h => notv_out k h) (by omega) (by omega) (HF0.out.transS (Fr.mono hSc fun k _ h => outA_low k h)) hf5
    clear hSa hSb hSc hSd ho ho2 hU hU4 hf hf4 hf5 cS k1 hA3
    go_wp2_with fail
    go_ret
    exact HEND.out
  · have b6 : (kd == 6) = false := by rw [beq_eq_false_iff_ne]; exact h6
    have b9 : (kd == 9) = false := by rw [beq_eq_false_iff_ne]; exact h9
    have b7 : (kd == 7) = false := by rw [beq_eq_false_iff_ne]; exact h7
    have b8 : (kd == 8) = false := by rw [beq_eq_false_iff_ne]; exact h8
    have HD2 : Hid ((askL D who s m).2 = R) := by show _ = _; rw [← HR.out, doF_not h9, doKd_ask h6 h9 h7 h8]
    have hKK := hK
    clear h6 h9 h7 h8
    go_wp2_with fail
    refine (HU0.out.l_ask HA0.out who s m hN1 hKK OKW.out OKS.out OKM.out).mono ?_
    rintro e w3 ⟨rfl, hU, hf⟩
    have HA3 : Hid (∀ k, w3.heap.size ≤ k → OutA B [w.heap.size] k) := fun k hk => HA0.out k (Nat.le_trans hf.size hk)
    have HU3 := Lib.hid hU
    have HF3 := Lib.hid (HF0.out.transS (hf.mono fun k _ h => outA_low k h))
    have HX3 := Lib.hid (HB0.out.fr hf (fun h => h.2 (by simp)))
    clear hU hf x0 x1 x2 x3 x4 x5 b6 b9 b7 b8
    have x1 : w3.cell? ⟨w.heap.size, 1, none⟩ = some (.int .i64 who) := HX3.out.cell 1
    have x2 : w3.cell? ⟨w.heap.size, 2, none⟩ = some (.int .i64 s.1) := HX3.out.cell 2
    have x3 : w3.cell? ⟨w.heap.size, 3, none⟩ = some (.bool s.2.1) := HX3.out.cell 3
    have x4 : w3.cell? ⟨w.heap.size, 4, none⟩ = some (.int .i64 s.2.2) := HX3.out.cell 4
    have x5 : w3.cell? ⟨w.heap.size, 5, none⟩ = some (.int .u8 m) := HX3.out.cell 5
    go_wp2_with fail
    refine (HU3.out.m_ask HA3.out HOK.out hN8 who s m OKM.out).mono ?_
    rintro e w4 ⟨rfl, hU, hf⟩
    have HEND : Hid (DoesRet w lb mb R N K B (.returned (.bool true)) w4) := does_fin HD2.out hU (fun k h => h) (by omega) (by omega) (HF3.out.transS (hf.mono fun k _ h => outA_low k h)) (Fr.refl _ _)
    clear hU hf x1 x2 x3 x4 x5
    generalize askL D who s m = fr at *
    obtain ⟨⟨fa, fe⟩, fd⟩ := fr
    have hee : (fe == fe) = true := by simp
    have hea : (fa == fa) = true := by simp
    go_wp2_with fail
    go_ret
    exact HEND.out
end Go.Proofs.YtokeciekncincabGreat
