/-
  The marks that ranges over functions leave among the deferred calls.
  No condition.
  A range over a function that writes between its rounds: a law of the statement, for an iterator whose contract is told for the caller's own words.
  No program in sight.
-/
import Derived.RangeFuncNested
import Derived.RangeFuncBound
import Derived.RangeFuncCalls
import Derived.RangeFuncLeaves
import Derived.Laws.EntriesVeiled
import Derived.Test.YtokeciekncincabGreatProg
import Derived.Test.YtokeciekncincabGreatPkC1
namespace Go.Proofs.YtokeciekncincabGreat
open Go Go.RowKit

/-- The marks that ranges over functions leave among the deferred calls. -/
abbrev markD (D : Nat) : Deferred := { target := .collected D, args := #[] }
theorem leaves_marks {F : Fence} {n : Nat} {fn : Func} {tmps : Array Value} {R : Ending → World → Prop} : ∀ (ds : List Nat) (W : World), ds.Nodup → (∀ D ∈ ds, W.heap[D]? = some (.deferred (some []))) →
    (∀ W', Fr W W' (fun k => k ∈ ds) → ∃ v, (results fn tmps).run Tryz.prog W' = .ok v W' ∧ R (.returned v) W') → LeavesInM F n Tryz.prog fn tmps R (ds.map markD) .returning W
  | [], W, _, _, h => h W (Fr.refl _ _)
  | D :: ds, W, hn, hd, h => by
    obtain ⟨h1, h2⟩ := List.nodup_cons.1 hn
    have hf : Fr W (W.putObj D (.deferred none)) (fun k => k = D) := (Fr.refl W _).grown (grownBy_putObj' W D _) fun k e _ => by cases e; rfl
    refine ⟨by simp, .inl ⟨D, _, rfl, run_takeDeferred (hd D (by simp)), ?_⟩⟩
    refine leaves_marks ds _ h2 (fun D' hD' => ?_) fun W' hf' => h W' ?_
    · have h3 := hd D' (by simp [hD'])
      exact (hf.block D' (Array.getElem?_eq_some_iff.1 h3).1 (fun e => h1 (by rw [← e]; exact hD'))).trans h3
    · exact (hf.mono fun k _ e => by simp [e]).trans hf' fun k _ hk => List.mem_cons_of_mem _ hk
end Go.Proofs.YtokeciekncincabGreat
namespace Go.Proofs.YtokeciekncincabGreat
open Go Go.RowKit

section
variable {F : Fence} {n : Nat} {P : Program}
/-- A world that is as it was but for one block of the loop's book-keeping. -/
theorem fr_put (W : World) (k : Nat) (o : Obj) : Fr W (W.putObj k o) (fun j => j = k) := (Fr.refl W _).grown (grownBy_putObj' W k o) fun j e _ => by cases e; rfl
/-- The two blocks of book-keeping: the mark's at D, the record behind it. -/
def Booked (rec : LoopState → Option Code → Loop) (D : Nat) (W : World) : Prop := W.heap[D + 1]? = some (.loop (rec .ready none)) ∧ W.heap[D]? = some (.deferred (some []))
theorem Booked.lt {rec : LoopState → Option Code → Loop} {D : Nat} {W : World} (h : Booked rec D W) : D + 1 < W.heap.size := (Array.getElem?_eq_some_iff.1 h.1).1
theorem Booked.fr {rec : LoopState → Option Code → Loop} {D : Nat} {W W' : World} {S : Nat → Prop} (h : Booked rec D W) (hf : Fr W W' S) (h1 : ¬ S D) (h2 : ¬ S (D + 1)) : Booked rec D W' :=
  ⟨(hf.block _ h.lt h2).trans h.1, (hf.block _ (by have := h.lt; omega) h1).trans h.2⟩
/-- What is said of a world is not turned by book-keeping from D on. -/
def Quiet (D : Nat) (J : World → Prop) : Prop := ∀ (W : World) (k : Nat) (o o' : Obj), J W → D ≤ k → k ≤ D + 1 → W.heap[k]? = some o → o.isCells = false → J (W.putObj k o')
/-- How a body may be left: at its end. -/
def endsAt (R : World → Prop) : Exit → Act → World → Prop
  | .normal, _, W => R W
  | _, _, _ => False
theorem wpIn_rangeOwn {α : Type} {g : Operand} {ps : Array Tmp} {assign body : Code} {Q : Exit → Act → World → Prop} {a : Act} {w : World}
    (hro : F.round = none) (h1 : 1 ≤ n) {gf : Nat} {lb : Array Value} (hg : a.eval g = .func (.func gf) #[] lb) (hFg : F.fn gf) (eg : ∀ args w, (callFunc gf args).run P w = .ok (.enter gf args) w)
    {encs : α → Array Value} (hps : ∀ x, (encs x).size = ps.size) (I : List α → World → Prop) (Y : List α → α → World → Prop) (E : World → Prop)
    (hI : ∀ pre, Quiet w.heap.size (I pre)) (hY : ∀ pre x, Quiet w.heap.size (Y pre x)) (hE : Quiet w.heap.size E)
    (hI0 : ∀ W, Fr w W Nil → I [] W)
    (hiter : ∀ (l : Nat) (W : World) (K : World → Prop), (∀ A B, K A → Fr A B (fun k => k < w.heap.size) → K B) → l = w.heap.size + 1 →
      (∀ pre x W1, Y pre x W1 → K W1 → YieldAt F (n - 1 - 1) P l (encs x) W1 fun e W' => e = .returned (.bool true) ∧ I (pre ++ [x]) W' ∧ K W') →
      I [] W → K W → w.heap.size + 2 ≤ W.heap.size → Fr w W Nil → CallsIn F (n - 1) P gf (#[.func (.yield l) #[] #[]] ++ lb) W fun e W' => (∃ v, e = .returned v) ∧ E W' ∧ K W')
    (a₁ : α → Act)
    (hassign : ∀ (l : Nat) (x : α) (W : World) (K : Act → World → Prop), K (a₁ x) W →
      assign.wpIn (F.inRound l) (n - 1 - 1) P (Exit.then K (fun _ _ _ => False)) { tmps := (ps.zip (encs x)).foldl (fun t (p, v) => t.setIfInBounds p v) a.tmps, defers := [] } W)
    (hbody : ∀ (l : Nat) (pre : List α) (x : α) (W : World), Y pre x W → w.heap.size + 2 ≤ W.heap.size →
      body.wpIn (F.inRound l) (n - 1 - 1) P (endsAt fun W' => I (pre ++ [x]) W' ∧ Fr W W' (fun k => k ≠ w.heap.size ∧ k ≠ w.heap.size + 1)) (a₁ x) W)
    (hdone : ∀ W, E W → W.heap[w.heap.size]? = some (.deferred (some [])) → w.heap.size < W.heap.size → Q .normal { a with defers := markD w.heap.size :: a.defers } W) :
    (Code.rangeFunc g ps assign body).wpIn F n P Q a w := by
  refine wpIn_rangeFunc ?_
  intro fn hfn
  rw [hro]
  obtain ⟨rec, hrec⟩ : ∃ rec : LoopState → Option Code → Loop, rec = fun st pe => { state := st, pending := pe, fn, tmps := a.tmps, params := ps, assign, body, defers := w.heap.size } := ⟨_, rfl⟩
  obtain ⟨W1, hW1⟩ : ∃ W1, (w.alloc (.deferred (some []))).alloc (.loop (rec .ready none)) = W1 := ⟨_, rfl⟩
  have hs1 : w.heap.size + 2 ≤ W1.heap.size := by rw [← hW1]; simp
  have hf1 : Fr w W1 Nil := by rw [← hW1]; exact ((Fr.refl w Nil).alloc _).alloc _
  have hB1 : Booked rec w.heap.size W1 := by
    rw [← hW1]
    refine ⟨?_, (Below.heap_alloc _ _ _ (by simp)).trans (World.alloc_heap_new w _)⟩
    have := World.alloc_heap_new (w.alloc (.deferred (some []))) (.loop (rec .ready none))
    rwa [World.size_alloc] at this
  refine ⟨w.heap.size + 1, [markD w.heap.size], W1, { target := .fn (.func gf) lb, args := #[.func (.yield (w.heap.size + 1)) #[] #[]] }, W1, gf,
    #[.func (.yield (w.heap.size + 1)) #[] #[]] ++ lb, W1, ?_, ?_, ?_, ?_, fun _ => h1, ?_⟩
  · rw [← hW1, hrec]; exact run_enterLoop_outer _ _ _ _ _
  · simp only [resolve, hg]
    simp [go_sem]
  · intro f' hf'; simp [Target.leads] at hf'; subst hf'; exact hFg
  · simp [invoke, go_sem, eg]
  refine (hiter (w.heap.size + 1) W1 (Booked rec w.heap.size) (fun A B hA hf => hA.fr hf (by omega) (by omega)) rfl ?_ (hI0 W1 hf1) hB1 hs1 hf1).mono ?_
  · rintro pre x W hy ⟨hl, hk⟩
    have hlt : w.heap.size + 1 < W.heap.size := (Array.getElem?_eq_some_iff.1 hl).1
    have hyr := run_yield (P := P) (args := encs x) hl (by rw [hrec]; exact hps x)
    rw [hrec] at hyr
    refine ⟨fn, _, assign, body, hyr, roundIn_of_wpIn hfn (hassign _ x W _ ?_)⟩
    obtain ⟨W2, hW2⟩ : ∃ W2, W.putObj (w.heap.size + 1) (.loop { rec .ready none with state := .busy }) = W2 := ⟨_, rfl⟩
    have hl2 : W2.heap[w.heap.size + 1]? = some (.loop { rec .ready none with state := .busy }) := by rw [← hW2]; exact World.putObj_heap_same hlt
    have hk2 : W2.heap[w.heap.size]? = some (.deferred (some [])) := by rw [← hW2]; exact (World.putObj_heap_other (by omega)).trans hk
    have hy2 : Y pre x W2 := by rw [← hW2]; exact hY pre x W _ _ _ hy (by omega) (by omega) hl rfl
    refine ⟨W2, by rw [← hW2]; exact run_beginRound hl (by rw [hrec]), ?_⟩
    refine wpIn_mono (hbody _ pre x W2 hy2 (by have := (Array.getElem?_eq_some_iff.1 hl2).1; omega)) ?_
    rintro e a3 W3 hp
    cases e with
    | normal =>
      obtain ⟨hi3, hf3⟩ := hp
      have hl3 := (hf3.block _ (Array.getElem?_eq_some_iff.1 hl2).1 (fun h => h.2 rfl)).trans hl2
      have hk3 := (hf3.block _ (Array.getElem?_eq_some_iff.1 hk2).1 (fun h => h.1 rfl)).trans hk2
      have hr := run_endRound (P := P) none hl3
      have hi4 := hI _ W3 _ _ (.loop { ({ rec .ready none with state := .busy } : Loop) with state := .ready, pending := none }) hi3 (by omega) (Nat.le_refl _) hl3 rfl
      have e4 : ({ ({ rec .ready none with state := .busy } : Loop) with state := .ready, pending := none } : Loop) = rec .ready none := by rw [hrec]
      refine ⟨_, _, hr, rfl, hi4, ?_, (World.putObj_heap_other (by omega)).trans hk3⟩
      rw [← e4]
      exact World.putObj_heap_same (Array.getElem?_eq_some_iff.1 hl3).1
    | ret => exact hp.elim
    | exit id => exact hp.elim
    | goto t => exact hp.elim
    | panic ch => exact hp.elim
    | outgrown => exact hp.elim
  · rintro e W2 ⟨⟨v, rfl⟩, hE2, hl, hk⟩
    have hr := run_endLoop (P := P) hl (by rw [hrec]; simp)
    have hpn : (rec .ready none).pending = none := by rw [hrec]
    refine ⟨none, _, by rw [hpn] at hr; exact hr, hdone _ (hE W2 _ _ _ hE2 (by omega) (Nat.le_refl _) hl rfl) ((World.putObj_heap_other (by omega)).trans hk) ?_⟩
    have := (Array.getElem?_eq_some_iff.1 hk).1
    simpa [World.putObj] using this
end
end Go.Proofs.YtokeciekncincabGreat
