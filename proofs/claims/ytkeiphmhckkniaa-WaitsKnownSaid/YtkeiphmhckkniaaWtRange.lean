/-
  A range over slices.Values of integers, in terms of things that lie apart.
  No condition but sizes.
-/
import Derived.Test.YtkeiphmhckkniaaWtLies
import Derived.Test.YtkeiphmhckkniaaSinkIn
import Derived.Test.YtkeiphmhckkniaaMarks
namespace Go.Proofs.Ytkeiphmhckkniaa
open Go Go.RowKit Go.Shelf

/-- What lies in memory, and what no loop's record, no mark has turned since. -/
def LK (w0 : World) (B : Nat) (W0 W : World) (l : List Thing) : Prop := Lies w0 W l ∧ KeepsFrom B W0 W
theorem keeps_fr {W W' : World} {S : Nat → Prop} (hf : Fr W W' S) (hS : ∀ k, S k → ∃ c e f, W.heap[k]? = some (.cells c e f)) (B : Nat) : KeepsFrom B W W' := ⟨hf.size, fun k o _ hk ho => by
  by_cases h : S k
  · obtain ⟨c, e, f, hc⟩ := hS k h
    rw [hk] at hc; cases hc; cases ho
  · exact (hf.block k (Array.getElem?_eq_some_iff.1 hk).1 h).trans hk⟩
theorem LK.start {w0 W : World} {l : List Thing} (h : Lies w0 W l) (B : Nat) : LK w0 B W W l := ⟨h, KeepsFrom.refl B W⟩
theorem LK.fr0 {w0 W0 W W' : World} {B : Nat} {l : List Thing} (h : LK w0 B W0 W l) (hf : Fr W W' Nil) : LK w0 B W0 W' l := ⟨h.1.fr0 hf, h.2.trans (keeps_fr hf (fun _ hk => hk.elim) B)⟩
theorem LK.get {w0 W0 W : World} {B : Nat} {l : List Thing} (h : LK w0 B W0 W l) (i : Nat) (x : Thing) (hi : l[i]? = some x) (hc : CellsT x) :
    ∃ S, x.At W S ∧ (∀ k, S k → w0.heap.size ≤ k) ∧ ∀ (W' : World) (S' : Nat → Prop) (x' : Thing), x'.At W' S' → (∀ k, S' k → S k ∨ W.heap.size ≤ k) → Fr W W' S → LK w0 B W0 W' (l.set i x') := by
  obtain ⟨S, h1, h2, h3⟩ := h.1.get i x hi
  exact ⟨S, h1, h2, fun W' S' x' hx hS hf => ⟨h3 W' S' x' hx hS hf, h.2.trans (keeps_fr hf (hc W S h1) B)⟩⟩
theorem LK.stored {w0 W0 W : World} {B : Nat} {l : List Thing} {b : Nat} {e : TypeId} {cs : List Value} (h : LK w0 B W0 W l) (i : Nat) (hi : l[i]? = some (bkT b e cs)) (j : Nat) (u : Value) : LK w0 B W0 (W.setCell ⟨b, j, none⟩ u) (l.set i (bkT b e (cs.set j u))) := by
  obtain ⟨S, h1, _, h2⟩ := h.get i _ hi (cells_bk _ _ _)
  exact h2 _ S (bkT b e (cs.set j u)) ⟨h1.1.set j u, h1.2⟩ (fun k hk => .inl hk) ((Fr.store W b j u).mono fun k _ hk => (h1.2 k).2 hk)
theorem LK.storedB {w0 W0 W : World} {B : Nat} {l : List Thing} {b n : Nat} {xs : List Bool} (h : LK w0 B W0 W l) (i : Nat) (hi : l[i]? = some (boT b n xs)) (j : Nat) (u : Bool) : LK w0 B W0 (W.setCell ⟨b, j, none⟩ (.bool u)) (l.set i (boT b n (xs.set j u))) := by
  obtain ⟨S, h1, _, h2⟩ := h.get i _ hi (cells_bo _ _ _)
  exact h2 _ S (boT b n (xs.set j u)) ⟨h1.1.set j u, h1.2⟩ (fun k hk => .inl hk) ((Fr.store W b j (.bool u)).mono fun k _ hk => (h1.2 k).2 hk)
/-- A row of integers is another. -/
theorem LK.row {w0 W0 W W' : World} {B : Nat} {l : List Thing} {v v' : Value} {xs xs' : List Int} (h : LK w0 B W0 W l) (i : Nat) (hi : l[i]? = some (owT v xs)) (ho : OwnInts W' 3 v' xs') (hg : W.grownBy W' v.ownBlock) (hat : v'.ownBlock = v.ownBlock ∨ ∀ k, v'.ownBlock = some k → W.heap.size ≤ k) : LK w0 B W0 W' (l.set i (owT v' xs')) := by
  obtain ⟨S, h1, _, h2⟩ := h.get i _ hi (cells_ow _ _)
  exact h2 _ (fun k => v'.ownBlock = some k) (owT v' xs') ⟨ho, fun _ => Iff.rfl⟩ (fun k hk => hat.imp (fun e => (h1.2 k).2 (by rw [← e]; exact hk)) fun e => e k hk) ((Fr.refl W _).grown hg fun k hk _ => (h1.2 k).2 hk)
theorem LK.queue {w0 W0 W W' : World} {B : Nat} {l : List Thing} {v v' : Value} {xs xs' : List Int} (h : LK w0 B W0 W l) (i : Nat) (hi : l[i]? = some (quT v xs)) (ho : QAt W' v' xs') (hg : W.grownBy W' v.ownBlock) (hat : v'.ownBlock = v.ownBlock ∨ ∀ k, v'.ownBlock = some k → W.heap.size ≤ k) : LK w0 B W0 W' (l.set i (quT v' xs')) := by
  obtain ⟨S, h1, _, h2⟩ := h.get i _ hi (cells_qu _ _)
  exact h2 _ (fun k => v'.ownBlock = some k) (quT v' xs') ⟨ho, fun _ => Iff.rfl⟩ (fun k hk => hat.imp (fun e => (h1.2 k).2 (by rw [← e]; exact hk)) fun e => e k hk) ((Fr.refl W _).grown hg fun k hk _ => (h1.2 k).2 hk)

theorem LK.newBk {w0 W0 W : World} {B : Nat} {l : List Thing} (h : LK w0 B W0 W l) (e : TypeId) (cs : Array Value) : LK w0 B W0 (W.alloc (.cells cs e)) (l ++ [bkT W.heap.size e cs.toList]) := ⟨h.1.newBk e cs, h.2.trans (keeps_fr ((Fr.refl W Nil).alloc _) (fun _ hk => hk.elim) B)⟩
theorem LK.take {w0 W0 W : World} {B : Nat} {l : List Thing} (h : LK w0 B W0 W l) (n : Nat) : LK w0 B W0 W (l.take n) := ⟨h.1.take n, h.2⟩
theorem LK.drew {w0 W0 W : World} {B : Nat} {l : List Thing} (h : LK w0 B W0 W l) : LK w0 B W0 W.drew l := h.fr0 (Fr.refl W Nil).drew
/-- One is appended to a queue. -/
theorem wp_qapp {w0 W0 W : World} {B : Nat} {l : List Thing} {o : Oper} {a : Act} {K : Act → World → Prop} {Q : Exit → Act → World → Prop} (s x : Operand) (ho : o.op = .call { callee := .builtin .append, args := #[s, x], argTypes := #[27, 27] })
    (h : LK w0 B W0 W l) {v : Value} {xs : List Int} {sb : Nat} {y : Int} (hs : a.eval s = v) (hx : a.eval x = .slice (some ⟨sb, 0, none⟩) 1 1) (i : Nat) (hi : l[i]? = some (quT v xs)) (j : Nat) (hj : l[j]? = some (bkT sb 3 [.int .i64 y])) (hl : xs.length ≤ 100000)
    (hK : ∀ b off cap W', LK w0 B W0 W' (l.set i (quT (.slice (some ⟨b, off, none⟩) (xs.length + 1) cap) (xs ++ [y]))) → K (a.put o.dst (.slice (some ⟨b, off, none⟩) (xs.length + 1) cap)) W') : o.wp Try.prog a W K Q := by
  have hc := (h.1.bk j hj).cell 0
  obtain ⟨v', W', hrun, h2, h3, h4⟩ := run_qapp (ty := o.type) (P := Try.prog) Try.sltInt (h.1.queue i hi) (so := 0) (sc := 1) hc hl
  have h5 := h.queue i hi h2 h3 h4
  obtain ⟨b, off, cap, cur, rfl, -⟩ := h2
  have e : (xs ++ [y]).length = xs.length + 1 := by simp
  rw [e] at h5 hrun
  unfold Oper.wp execOp
  simp only [ho, resolve, invoke, builtin, Sem.run_bind, Sem.run_pure, Result.andThen_ok, List.map_toArray, List.map_cons, List.map_nil, hs, hx, hrun]
  exact hK b off cap W' h5
/-- One is appended to a row. -/
theorem wp_oapp {w0 W0 W : World} {B : Nat} {l : List Thing} {o : Oper} {a : Act} {K : Act → World → Prop} {Q : Exit → Act → World → Prop} (s x : Operand) (ho : o.op = .call { callee := .builtin .append, args := #[s, x], argTypes := #[27, 27] })
    (h : LK w0 B W0 W l) {v : Value} {xs : List Int} {sb : Nat} {y : Int} (hs : a.eval s = v) (hx : a.eval x = .slice (some ⟨sb, 0, none⟩) 1 1) (i : Nat) (hi : l[i]? = some (owT v xs)) (j : Nat) (hj : l[j]? = some (bkT sb 3 [.int .i64 y])) (hl : xs.length ≤ 100000)
    (hK : ∀ ad cap W', LK w0 B W0 W' (l.set i (owT (.slice ad (xs.length + 1) cap) (xs ++ [y]))) → K (a.put o.dst (.slice ad (xs.length + 1) cap)) W') : o.wp Try.prog a W K Q := by
  have hb := h.1.bk j hj
  have hsl : SlAt W 1 (.slice (some ⟨sb, 0, none⟩) 1 1) 1 [.int .i64 y] := by
    refine ⟨rfl, .inr ⟨⟨sb, 0, none⟩, 1, rfl, fun k u hu => ?_⟩⟩
    rw [Addr.add_lit, Nat.zero_add, hb.cell k]
    exact hu
  refine wp_app W s x _ ho Try.sltInt v hs (h.1.row i hi) _ hx hsl (fun u hu => by rw [List.mem_singleton.1 hu]; rfl) (by omega) fun g cap W' h2 h3 h4 => ?_
  have e : xs.length + 1 = (xs ++ [y]).length := by simp
  refine hK g cap W' (h.row i hi (v' := .slice g (xs.length + 1) cap) (by unfold OwnInts; rw [List.map_append, ← e]; exact h2) h3 (h4.imp id fun e k hk => by rw [e] at hk; cases hk; exact Nat.le_refl _))

/-- An iterator over integers. -/
def seqT (Bs : Nat) (a : Option Addr) (cap : Nat) (es : List Int) : Thing where
  At w S := SeqAt w Bs a cap es ∧ ∀ k, S k ↔ (k = Bs ∨ (Value.slice a es.length cap).ownBlock = some k)
  fr h hf hd := ⟨h.1.fr hf (hd Bs ((h.2 Bs).2 (.inl rfl))) (fun k hk => hd k ((h.2 k).2 (.inr hk))), h.2⟩
  lt h k hk := by
    rcases (h.2 k).1 hk with rfl | hk
    · exact h.1.box.lt
    · exact h.1.own.lt k hk
theorem cells_seq (Bs : Nat) (a : Option Addr) (cap : Nat) (es : List Int) : CellsT (seqT Bs a cap es) := fun w S h k hk => by
  rcases (h.2 k).1 hk with rfl | hk
  · exact ⟨_, _, _, h.1.box⟩
  · exact cellsRow h.1.own hk
theorem Lies.seq {w0 W : World} {l : List Thing} {Bs cap : Nat} {a : Option Addr} {es : List Int} (h : Lies w0 W l) (i : Nat) (hi : l[i]? = some (seqT Bs a cap es)) : SeqAt W Bs a cap es := by
  obtain ⟨S, h1, _⟩ := h.get i _ hi
  exact h1.1
/-- The marks that loops left. -/
def marksT (ds : List Nat) : Thing where
  At w S := (ds.Nodup ∧ ∀ D ∈ ds, w.heap[D]? = some (.deferred (some []))) ∧ ∀ k, S k ↔ k ∈ ds
  fr h hf hd := ⟨⟨h.1.1, fun D hD => (hf.block D (Array.getElem?_eq_some_iff.1 (h.1.2 D hD)).1 (hd D ((h.2 D).2 hD))).trans (h.1.2 D hD)⟩, h.2⟩
  lt h k hk := (Array.getElem?_eq_some_iff.1 (h.1.2 k ((h.2 k).1 hk))).1
theorem Lies.marks {w0 W : World} {l : List Thing} {ds : List Nat} (h : Lies w0 W l) (i : Nat) (hi : l[i]? = some (marksT ds)) : ds.Nodup ∧ (∀ D ∈ ds, W.heap[D]? = some (.deferred (some []))) ∧ ∀ D ∈ ds, w0.heap.size ≤ D := by
  obtain ⟨S, h1, h2, _⟩ := h.get i _ hi
  exact ⟨h1.1.1, h1.1.2, fun D hD => h2 D ((h1.2 D).2 hD)⟩
/-- What is no row of cells may turn, from B on. -/
theorem Lies.turnM {w0 W W' : World} {ds : List Nat} {l : List Thing} {row : Option Nat} {B : Nat} (h : Lies w0 W (marksT ds :: l)) (hc : ∀ x ∈ l, CellsT x) (hg : W.grownBy W' row) (hB : w0.heap.size ≤ B) (hd : ∀ D ∈ ds, D < B) (hr : ∀ r, row = some r → B ≤ r ∧ ∃ o : Obj, W.heap[r]? = some o ∧ o.isCells = false) : Lies w0 W' (marksT ds :: l) := by
  obtain ⟨h1, F, h2, h3⟩ := h
  have hf : Fr W W' (fun k => row = some k) := (Fr.refl W _).grown hg fun k hk _ => hk
  refine ⟨h1.grown hg fun k hk hlt => by have := (hr k hk).1; omega, F, fun i x hx => ⟨x.fr (h2 i x hx).1 hf fun k hk e => ?_, (h2 i x hx).2⟩, h3⟩
  cases i with
  | zero =>
    cases hx
    have h4 := ((h2 0 (marksT ds) rfl).1.2 k).1 hk
    have := hd k h4
    have := (hr k e).1
    omega
  | succ i =>
    obtain ⟨c, e2, f, hk2⟩ := hc x (List.mem_of_getElem? (by simpa using hx)) W _ (h2 _ x hx).1 k hk
    obtain ⟨_, o, ho, hn⟩ := hr k e
    rw [hk2] at ho
    cases ho
    cases hn
/-- One mark more. -/
theorem Lies.mark {w0 W : World} {ds : List Nat} {l : List Thing} {D : Nat} (h : Lies w0 W (marksT ds :: l)) (hc : ∀ x ∈ l, CellsT x) (hD : W.heap[D]? = some (.deferred (some []))) (hn : D ∉ ds) (h0 : w0.heap.size ≤ D) : Lies w0 W (marksT (D :: ds) :: l) := by
  obtain ⟨h1, F, h2, h3⟩ := h
  have hno : ∀ j x, (marksT ds :: l)[j + 1]? = some x → ¬ F (j + 1) D := fun j x hx hk => by
    obtain ⟨c, e2, f, hk2⟩ := hc x (List.mem_of_getElem? (by simpa using hx)) W _ (h2 _ x hx).1 D hk
    rw [hD] at hk2; cases hk2
  have hm := (h2 0 (marksT ds) rfl).1
  refine ⟨h1, fun i k => if i = 0 then k = D ∨ F 0 k else F i k, fun i x hx => ?_, fun i j hi hj hij k hk hk2 => ?_⟩
  · cases i with
    | zero =>
      cases hx
      refine ⟨⟨⟨List.nodup_cons.2 ⟨hn, hm.1.1⟩, fun D' hD' => ?_⟩, fun k => ?_⟩, fun k hk => ?_⟩
      · rcases List.mem_cons.1 hD' with rfl | hD'
        · exact hD
        · exact hm.1.2 D' hD'
      · dsimp only
        rw [if_pos rfl, List.mem_cons, hm.2 k]
      · simp only [if_pos] at hk
        rcases hk with rfl | hk
        · exact h0
        · exact (h2 0 (marksT ds) rfl).2 k hk
    | succ i =>
      have := h2 (i + 1) x hx
      simpa using this
  · have hl : ∀ m, m < (marksT (D :: ds) :: l).length → m < (marksT ds :: l).length := fun m hm => by simpa using hm
    dsimp only at hk hk2
    by_cases ei : i = 0
    · subst ei
      rw [if_pos rfl] at hk
      rw [if_neg (by omega)] at hk2
      rcases hk with rfl | hk
      · obtain ⟨j', rfl⟩ : ∃ j', j = j' + 1 := ⟨j - 1, by omega⟩
        exact hno j' _ (List.getElem?_eq_getElem (hl _ hj)) hk2
      · exact h3 0 j (hl _ hi) (hl _ hj) hij k hk hk2
    · rw [if_neg ei] at hk
      by_cases ej : j = 0
      · subst ej
        rw [if_pos rfl] at hk2
        rcases hk2 with rfl | hk2
        · obtain ⟨i', rfl⟩ : ∃ i', i = i' + 1 := ⟨i - 1, by omega⟩
          exact hno i' _ (List.getElem?_eq_getElem (hl _ hi)) hk
        · exact h3 i 0 (hl _ hi) (hl _ hj) hij k hk hk2
      · rw [if_neg ej] at hk2
        exact h3 i j (hl _ hi) (hl _ hj) hij k hk hk2
/-- The marks are let go. -/
theorem Lies.leave {w0 W W' : World} {ds : List Nat} {l : List Thing} (h : Lies w0 W (marksT ds :: l)) (hf : Fr W W' (fun k => k ∈ ds)) : Lies w0 W' l := by
  have hm := h.marks 0 rfl
  obtain ⟨h1, F, h2, h3⟩ := h
  refine ⟨h1.trans hf fun k hk hd => by have := hm.2.2 k hd; omega, fun i => F (i + 1), fun i x hx => ?_, fun i j hi hj hij => h3 (i + 1) (j + 1) (by simpa using hi) (by simpa using hj) (by omega)⟩
  have h4 := h2 (i + 1) x (by simpa using hx)
  have hi := (List.getElem?_eq_some_iff.1 hx).1
  exact ⟨x.fr h4.1 hf fun k hk hd => h3 (i + 1) 0 (by simpa using hi) (by simp) (by omega) k hk (((h2 0 (marksT ds) rfl).1.2 k).2 hd), h4.2⟩
theorem Lies.newFrom {w0 W : World} {l : List Thing} {v : Value} {xs : List Int} (h : Lies w0 W l) (i : Nat) (hi : l[i]? = some (owT v xs)) : NewFrom w0.heap.size v := by
  obtain ⟨S, h1, h2, _⟩ := h.get i _ hi
  exact fun k hk => h2 k ((h1.2 k).2 hk)
theorem Lies.rowTo {w0 W W' : World} {l : List Thing} {v : Value} {xs xs' : List Int} (h : Lies w0 W l) (i : Nat) (hi : l[i]? = some (owT v xs)) (ho : OwnInts W' 3 v xs') (hf : Fr W W' (fun k => v.ownBlock = some k)) : Lies w0 W' (l.set i (owT v xs')) := by
  obtain ⟨S, h1, _, h2⟩ := h.get i _ hi
  exact h2 W' S _ ⟨ho, h1.2⟩ (fun k hk => .inl hk) (hf.mono fun k _ hk => (h1.2 k).2 hk)
theorem Lies.quTo {w0 W : World} {l : List Thing} {v v' : Value} {xs xs' : List Int} (h : Lies w0 W l) (i : Nat) (hi : l[i]? = some (quT v xs)) (ho : QAt W v' xs') (hb : v'.ownBlock = v.ownBlock) : Lies w0 W (l.set i (quT v' xs')) := by
  obtain ⟨S, h1, _, h2⟩ := h.get i _ hi
  exact h2 W S _ ⟨ho, fun k => by rw [hb]; exact h1.2 k⟩ (fun k hk => .inl hk) (Fr.refl _ _)
/-- What Graph.of gives lies apart. -/
theorem Lies.of {w0 w W : World} {l : List Thing} {es : List Int} {e : Ending} (h : Lies w0 w l) (hr : OfRet es w e W) : ∃ Bs a cap, e = .returned (valF Bs) ∧ Lies w0 W (l ++ [seqT Bs a cap es]) := by
  obtain ⟨Bs, a, cap, he, h1, h2, h3, h4⟩ := hr
  exact ⟨Bs, a, cap, he, h.add (seqT Bs a cap es) (S := fun k => k = Bs ∨ (Value.slice a es.length cap).ownBlock = some k) ⟨h1, fun _ => Iff.rfl⟩ (fun k hk => by rcases hk with rfl | hk; exact h2; exact h3 k hk) h4⟩

abbrev setX (a : Act) (p q : Tmp) (x : Int) : Act := { tmps := (a.tmps.setIfInBounds p (.int .i64 x)).setIfInBounds q (.int .i64 x), defers := [] }
/-- What slots hold, where nothing is known of them. -/
theorem useU {T : Array Value} {d d' : List Deferred} {f : (Nat → Value) → Array Value} {R : Prop} (h : ({ tmps := T, defers := d } : Act) = { tmps := f (fun k => T.getD k undef), defers := d' }) (hr : R) : ∃ u : Nat → Value, ({ tmps := T, defers := d } : Act) = { tmps := f u, defers := d' } ∧ R := ⟨_, h, hr⟩
/-- THE RULE: a range over an iterator of integers. -/
theorem wpIn_range_of {g : Operand} {p : Tmp} (q : Tmp) {assign body : Code} {Q : Exit → Act → World → Prop} {a : Act} {w w0 : World} {n : Nat} (h1 : 2 ≤ n) {Bs cap : Nat} {av : Option Addr} {es : List Int} (hg : a.eval g = valF Bs) (hl : es.length ≤ 1000000)
    {E : Type} (L : E → List Thing) (J : List Int → E → Prop) (ds : List Nat) (hL : ∀ e, ∀ x ∈ L e, CellsT x)
    (h0 : ∃ e, Lies w0 w (marksT ds :: (L e ++ [seqT Bs av cap es])) ∧ J [] e)
    (hassign : ∀ (l : Nat) (x : Int) (W : World) (K : Act → World → Prop), K (setX a p q x) W → assign.wpIn (Fence.wide.inRound l) (n - 1 - 1) Try.prog (Exit.then K (fun _ _ _ => False)) { tmps := a.tmps.setIfInBounds p (.int .i64 x), defers := [] } W)
    (hbody : ∀ (l : Nat) (pre : List Int) (x : Int) (W : World) (e : E), x ∈ es → pre.length < es.length → Lies w0 W (marksT ds :: (L e ++ [seqT Bs av cap es])) → J pre e →
      body.wpIn (Fence.wide.inRound l) (n - 1 - 1) Try.prog (OnlyEnd fun _ W' => ∃ e', LK w0 w.heap.size W W' (marksT ds :: (L e' ++ [seqT Bs av cap es])) ∧ J (pre ++ [x]) e') (setX a p q x) W)
    (hdone : ∀ (D : Nat) (W : World) (e : E), Lies w0 W (marksT (D :: ds) :: (L e ++ [seqT Bs av cap es])) → J es e → Q .normal { a with defers := markD D :: a.defers } W) :
    (Code.rangeFunc g #[p] assign body).wpIn Fence.wide n Try.prog Q a w := by
  have hww : w0.heap.size ≤ w.heap.size := by obtain ⟨e, h, _⟩ := h0; exact h.fr.size
  have hdl : ∀ D ∈ ds, D < w.heap.size := by
    obtain ⟨e, h, _⟩ := h0
    intro D hD
    exact (Array.getElem?_eq_some_iff.1 ((h.marks 0 rfl).2.1 D hD)).1
  have hLx : ∀ e, ∀ x ∈ L e ++ [seqT Bs av cap es], CellsT x := fun e x hx => by
    rcases List.mem_append.1 hx with hx | hx
    · exact hL e x hx
    · rw [List.mem_singleton.1 hx]; exact cells_seq _ _ _ _
  have hsq : ∀ e, (marksT ds :: (L e ++ [seqT Bs av cap es]))[(L e).length + 1]? = some (seqT Bs av cap es) := fun e => by simp
  have hseq : SeqAt w Bs av cap es := by
    obtain ⟨e, h, _⟩ := h0
    exact h.seq _ (hsq e)
  refine wpIn_rangeFunc_ownH (F := Fence.wide) rfl (by omega) (gf := 49) (lb := #[.pointer (some ⟨Bs, 0, none⟩)]) hg trivial (enters_of Try.func49 (by kernel_rfl) rfl)
    (values_stops _ (by omega) Bs cap av es hl w hseq) keepV_t keepV_b (Below.refl _ _) (fun _ => rfl)
    (fun pre W2 => ∃ e, Lies w0 W2 (marksT ds :: (L e ++ [seqT Bs av cap es])) ∧ J (pre.map Subtype.val) e)
    (fun _ _ _ => False)
    (fun pre A C row hs hg hr => by
      obtain ⟨e, hs, hj⟩ := hs
      exact ⟨e, hs.turnM (hLx e) hg hww hdl hr, hj⟩)
    (fun _ _ _ _ _ hs _ _ => hs)
    (by
      obtain ⟨e, h, hj⟩ := h0
      exact ⟨e, h, hj⟩)
    (fun x a' _ => a' = setX a p q x.1) (fun x a' _ A C row hs hg hr => hs) ?_ ?_ ?_ ?_
  · intro l pre x W K hi hK
    have h2 := hassign l x.1 W K (hK _ _ (KeepsFrom.refl _ _) (fun h => h) hi rfl)
    simpa using h2
  · rintro l pre x a' W _ _ ⟨e, hs, hj⟩ rfl hlt
    refine wpIn_mono (hbody l (pre.map Subtype.val) x.1 W e x.2 (by simpa using hlt) hs hj) ?_
    rintro ex a2 W2 h
    cases ex
    case normal =>
      obtain ⟨e', h3, h4⟩ := h
      refine ⟨h3.2, fun _ => h3.1.seq _ (hsq e'), e', h3.1, ?_⟩
      rw [List.map_append]; exact h4
    all_goals exact h.elim
  · rintro D xs W hD rfl ⟨e, hs, hj⟩ hDW
    refine hdone D W e (hs.mark (hLx e) hDW (fun hm => by have := hdl D hm; omega) (by omega)) ?_
    simpa using hj
  · intro D c pre W _ _ h
    exact h.elim
end Go.Proofs.Ytkeiphmhckkniaa
