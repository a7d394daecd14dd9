/-
  Rows of rows of integers, of the call's own, as one thing.
  No condition but sizes.
-/
import Derived.Test.YtkeiphmhckkniaaWtRange
namespace Go.Proofs.Ytkeiphmhckkniaa
open Go Go.RowKit

/-- Rows that lie apart from each other. -/
def RowsIn (W : World) (vs : List Value) (G : List (List Int)) : Prop :=
  vs.length = G.length ∧ (∀ (i : Nat) (xs : List Int), G[i]? = some xs → ∃ u, vs[i]? = some u ∧ OwnInts W 3 u xs) ∧ ∀ (i j : Nat) (u v : Value) (k : Nat), i ≠ j → vs[i]? = some u → vs[j]? = some v → u.ownBlock = some k → v.ownBlock ≠ some k
theorem rowTy {W : World} {e : TypeId} {v : Value} {xs : List Int} (h : OwnInts W e v xs) {k : Nat} (hk : v.ownBlock = some k) : ∃ cur, W.heap[k]? = some (.cells cur e (0, 0)) := by
  rcases h.2 with ⟨rfl, _⟩ | ⟨g, cap, cur, rfl, _, hg, _⟩
  · simp [Value.ownBlock] at hk
  · simp [Value.ownBlock] at hk; subst hk; exact ⟨cur, hg⟩
theorem RowsIn.row {W : World} {vs : List Value} {G : List (List Int)} (h : RowsIn W vs G) {i : Nat} {u : Value} (hu : vs[i]? = some u) : ∃ xs, G[i]? = some xs ∧ OwnInts W 3 u xs := by
  have hi := (List.getElem?_eq_some_iff.1 hu).1
  have hg : i < G.length := by rw [← h.1]; exact hi
  obtain ⟨u2, h2, h3⟩ := h.2.1 i _ (List.getElem?_eq_getElem hg)
  rw [hu] at h2; cases h2
  exact ⟨_, List.getElem?_eq_getElem hg, h3⟩
theorem RowsIn.lt {W : World} {vs : List Value} {G : List (List Int)} (h : RowsIn W vs G) {i : Nat} {u : Value} (hu : vs[i]? = some u) {k : Nat} (hk : u.ownBlock = some k) : k < W.heap.size := by
  obtain ⟨xs, _, ho⟩ := h.row hu
  exact ho.lt k hk
theorem RowsIn.fr {W W' : World} {S : Nat → Prop} {vs : List Value} {G : List (List Int)} (h : RowsIn W vs G) (hf : Fr W W' S) (hr : ∀ (i : Nat) (u : Value) (k : Nat), vs[i]? = some u → u.ownBlock = some k → ¬ S k) : RowsIn W' vs G :=
  ⟨h.1, fun i xs hi => by
    obtain ⟨u, hu, hx⟩ := h.2.1 i xs hi
    exact ⟨u, hu, hx.fr hf fun k hk => hr i u k hu hk⟩, h.2.2⟩
/-- One row is another. -/
theorem RowsIn.set {W W' : World} {S : Nat → Prop} {i : Nat} {vs : List Value} {G : List (List Int)} {u u' : Value} {xs' : List Int} (h : RowsIn W vs G) (hi : vs[i]? = some u) (hf : Fr W W' S) (hS : ∀ (j : Nat) (v : Value) (k : Nat), j ≠ i → vs[j]? = some v → v.ownBlock = some k → ¬ S k)
    (hu : OwnInts W' 3 u' xs') (hb : ∀ (j : Nat) (v : Value) (k : Nat), j ≠ i → vs[j]? = some v → v.ownBlock = some k → u'.ownBlock ≠ some k) : RowsIn W' (vs.set i u') (G.set i xs') := by
  have hil : i < vs.length := (List.getElem?_eq_some_iff.1 hi).1
  refine ⟨by simp [h.1], fun j xs hj => ?_, fun a b x y k hab hx hy hk hk2 => ?_⟩
  · by_cases e : j = i
    · subst e
      rw [List.getElem?_set_self (by rw [← h.1]; exact hil)] at hj
      cases hj
      exact ⟨u', by rw [List.getElem?_set_self hil], hu⟩
    · rw [List.getElem?_set_ne (fun h => e h.symm)] at hj
      obtain ⟨v, hv, hx⟩ := h.2.1 j xs hj
      exact ⟨v, by rw [List.getElem?_set_ne (fun h => e h.symm)]; exact hv, hx.fr hf fun k hk => hS j v k e hv hk⟩
  · by_cases ea : a = i
    · subst ea
      rw [List.getElem?_set_self hil] at hx
      cases hx
      rw [List.getElem?_set_ne (fun h => hab h)] at hy
      exact hb b y k (fun e => hab e.symm) hy hk2 hk
    · rw [List.getElem?_set_ne (fun h => ea h.symm)] at hx
      by_cases eb : b = i
      · subst eb
        rw [List.getElem?_set_self hil] at hy
        cases hy
        exact hb a x k ea hx hk hk2
      · rw [List.getElem?_set_ne (fun h => eb h.symm)] at hy
        exact h.2.2 a b x y k hab hx hy hk hk2
/-- One row more. -/
theorem RowsIn.snoc {W W' : World} {S : Nat → Prop} {vs : List Value} {G : List (List Int)} {u' : Value} {xs' : List Int} (h : RowsIn W vs G) (hf : Fr W W' S) (hS : ∀ (j : Nat) (v : Value) (k : Nat), vs[j]? = some v → v.ownBlock = some k → ¬ S k)
    (hu : OwnInts W' 3 u' xs') (hb : ∀ (j : Nat) (v : Value) (k : Nat), vs[j]? = some v → v.ownBlock = some k → u'.ownBlock ≠ some k) : RowsIn W' (vs ++ [u']) (G ++ [xs']) := by
  have hsn : ∀ {α : Type} (l : List α) (x y : α) (j : Nat), (l ++ [x])[j]? = some y → (j < l.length ∧ l[j]? = some y) ∨ (j = l.length ∧ x = y) := fun l x y j hj => by
    rcases Nat.lt_or_ge j l.length with h | h
    · rw [List.getElem?_append_left h] at hj; exact .inl ⟨h, hj⟩
    · have h2 := (List.getElem?_eq_some_iff.1 hj).1
      simp at h2
      obtain rfl : j = l.length := by omega
      simp at hj
      exact .inr ⟨rfl, hj⟩
  refine ⟨by simp [h.1], fun j xs hj => ?_, fun a b x y k hab hx hy hk hk2 => ?_⟩
  · rcases hsn _ _ _ _ hj with ⟨hl, hj⟩ | ⟨rfl, rfl⟩
    · obtain ⟨v, hv, hx⟩ := h.2.1 j xs hj
      exact ⟨v, by rw [List.getElem?_append_left (by rw [h.1]; exact hl)]; exact hv, hx.fr hf fun k hk => hS j v k hv hk⟩
    · exact ⟨u', by rw [← h.1]; simp, hu⟩
  · rcases hsn _ _ _ _ hx with ⟨_, hx⟩ | ⟨rfl, rfl⟩
    · rcases hsn _ _ _ _ hy with ⟨_, hy⟩ | ⟨rfl, rfl⟩
      · exact h.2.2 a b x y k hab hx hy hk hk2
      · exact hb a x k hx hk hk2
    · rcases hsn _ _ _ _ hy with ⟨_, hy⟩ | ⟨rfl, rfl⟩
      · exact hb b y k hy hk2 hk
      · exact hab rfl
/-- Rows of rows of integers. -/
def gT (v : Value) (G : List (List Int)) : Thing where
  At w S := ∃ vs, w.ownsRow 0 27 1 v G.length vs ∧ RowsIn w vs G ∧ ∀ k, S k ↔ (v.ownBlock = some k ∨ ∃ (i : Nat) (u : Value), vs[i]? = some u ∧ u.ownBlock = some k)
  fr h hf hd := by
    obtain ⟨vs, h1, h2, h3⟩ := h
    exact ⟨vs, hf.own h1 fun k hk => hd k ((h3 k).2 (.inl hk)), h2.fr hf fun i u k hu hk => hd k ((h3 k).2 (.inr ⟨i, u, hu, hk⟩)), h3⟩
  lt h k hk := by
    obtain ⟨vs, h1, h2, h3⟩ := h
    rcases (h3 k).1 hk with hk | ⟨i, u, hu, hk⟩
    · exact (World.ownsRow.lt h1 k hk).2
    · exact h2.lt hu hk
theorem cells_g (v : Value) (G : List (List Int)) : CellsT (gT v G) := fun w S h k hk => by
  obtain ⟨vs, h1, h2, h3⟩ := h
  rcases (h3 k).1 hk with hk | ⟨i, u, hu, hk⟩
  · exact cellsRow h1 hk
  · obtain ⟨xs, _, ho⟩ := h2.row hu
    exact cellsRow ho hk
/-- Blocks that are let go. -/
def holdT : Thing where
  At w S := ∀ k, S k → k < w.heap.size
  fr h hf _ k hk := Nat.lt_of_lt_of_le (h k hk) hf.size
  lt h := h
theorem Lies.graph {w0 W : World} {l : List Thing} {v : Value} {G : List (List Int)} (h : Lies w0 W l) (i : Nat) (hi : l[i]? = some (gT v G)) (hG : ∀ xs ∈ G, xs.length ≤ 1000000) : GraphAt W v G := by
  obtain ⟨S, ⟨vs, h1, h2, _⟩, _⟩ := h.get i _ hi
  refine ⟨vs, (SlAt.of_own h1).1, fun j xs hj => ?_⟩
  obtain ⟨u, hu, hx⟩ := h2.2.1 j xs hj
  exact ⟨u, hu, hx.at, hG xs (List.mem_of_getElem? hj)⟩
theorem Lies.gshape {w0 W : World} {l : List Thing} {v : Value} {G : List (List Int)} (h : Lies w0 W l) (i : Nat) (hi : l[i]? = some (gT v G)) (hn : 0 < G.length) : ∃ b cap, v = .slice (some ⟨b, 0, none⟩) G.length cap := by
  obtain ⟨S, ⟨vs, h1, h2, _⟩, _⟩ := h.get i _ hi
  rcases h1.2 with ⟨_, h0⟩ | ⟨g, cap, cur, hv, _⟩
  · omega
  · exact ⟨g, cap, hv⟩
/-- A row's cell. -/
theorem Lies.gcell {w0 W : World} {l : List Thing} {b n cap : Nat} {G : List (List Int)} (h : Lies w0 W l) (i : Nat) (hi : l[i]? = some (gT (.slice (some ⟨b, 0, none⟩) n cap) G)) (k : Nat) (xs : List Int) (hk : G[k]? = some xs) :
    ∃ a c, W.cell? ⟨b, k, none⟩ = some (.slice a xs.length c) ∧ OwnInts W 3 (.slice a xs.length c) xs ∧ W.frozen? ⟨b, k, none⟩ = false := by
  obtain ⟨S, ⟨vs, h1, h2, _⟩, _⟩ := h.get i _ hi
  obtain ⟨u, hu, hx⟩ := h2.2.1 k xs hk
  obtain ⟨a, c, rfl⟩ := hx.shape
  have hn : G.length = n := by rcases h1.2 with ⟨e, _⟩ | ⟨_, _, _, e, _⟩ <;> simp at e; exact e.2.1.symm
  have hkl := (List.getElem?_eq_some_iff.1 hk).1
  rw [hn] at h1
  exact ⟨a, c, by rw [World.ownsRow.cellAt h1 k (by omega)]; exact hu, hx, World.ownsRow.frozenAt h1 k⟩
/-- A row that is there grows: behind the append, and behind the store. -/
theorem LK.ggrow {w0 W0 W W1 : World} {B : Nat} {l : List Thing} {b n cap : Nat} {G : List (List Int)} (h : LK w0 B W0 W l) (i : Nat) (hi : l[i]? = some (gT (.slice (some ⟨b, 0, none⟩) n cap) G)) (k : Nat) {u u' : Value} {xs xs' : List Int} (hk : G[k]? = some xs) (hu : W.cell? ⟨b, k, none⟩ = some u)
    (ho : OwnInts W1 3 u' xs') (hg : W.grownBy W1 u.ownBlock) (hat : u'.ownBlock = u.ownBlock ∨ ∀ k, u'.ownBlock = some k → W.heap.size ≤ k) :
    LK w0 B W0 W1 (l.set i holdT) ∧ W1.cell? ⟨b, k, none⟩ = some u ∧ W1.frozen? ⟨b, k, none⟩ = false ∧ LK w0 B W0 (W1.setCell ⟨b, k, none⟩ u') (l.set i (gT (.slice (some ⟨b, 0, none⟩) n cap) (G.set k xs'))) := by
  obtain ⟨S, ⟨vs, h1, h2, h3⟩, h4, h5⟩ := h.get i _ hi (cells_g _ _)
  have hkl := (List.getElem?_eq_some_iff.1 hk).1
  have hn : G.length = n := by rcases h1.2 with ⟨e, _⟩ | ⟨_, _, _, e, _⟩ <;> simp at e; exact e.2.1.symm
  subst hn
  have hvu : vs[k]? = some u := by rw [← World.ownsRow.cellAt h1 k (by omega)]; exact hu
  obtain ⟨xs2, _, hox⟩ := h2.row hvu
  have hbt : ∃ cur, W.heap[b]? = some (.cells cur 27 (0, 0)) := by
    rcases h1.2 with ⟨e, _⟩ | ⟨g, c, cur, e, _, hg, _⟩
    · simp at e
    · simp at e; obtain ⟨rfl, _⟩ := e; exact ⟨cur, hg⟩
  have hub : u.ownBlock ≠ some b := fun e => by
    obtain ⟨c1, e1⟩ := rowTy hox e
    obtain ⟨c2, e2⟩ := hbt
    rw [e1] at e2; simp at e2
  have hf1 : Fr W W1 (fun j => u.ownBlock = some j) := (Fr.refl W _).grown hg fun j hj _ => hj
  have hbl : b < W.heap.size := (World.ownsRow.lt h1 b rfl).2
  have h1' : W1.ownsRow 0 27 1 (.slice (some ⟨b, 0, none⟩) G.length cap) G.length vs := hf1.own h1 fun j hj e => by
    cases hj; exact hub e
  have hSu : ∀ j, u.ownBlock = some j → S j := fun j hj => (h3 j).2 (.inr ⟨k, u, hvu, hj⟩)
  have hu'b : u'.ownBlock ≠ some b := fun e => by
    rcases hat with hat | hat
    · rw [hat] at e; exact hub e
    · have := hat b e; omega
  refine ⟨h5 W1 S holdT (fun j hj => ?_) (fun j hj => .inl hj) (hf1.mono fun j _ hj => hSu j hj), ?_, World.ownsRow.frozenAt h1' k, ?_⟩
  · refine Nat.lt_of_lt_of_le ?_ hf1.size
    rcases (h3 j).1 hj with hj | ⟨i2, v2, hv2, hj⟩
    · exact (World.ownsRow.lt h1 j hj).2
    · exact h2.lt hv2 hj
  · rw [World.ownsRow.cellAt h1' k (by omega)]; exact hvu
  · have hf2 : Fr W (W1.setCell ⟨b, k, none⟩ u') (fun j => u.ownBlock = some j ∨ j = b) := (hf1.mono fun j _ hj => .inl hj).setCell (fun _ => .inr rfl) u'
    have hst := (World.ownsRow.stored h1' k u').1
    have hne : ∀ (j : Nat) (v : Value) (m : Nat), j ≠ k → vs[j]? = some v → v.ownBlock = some m → u.ownBlock ≠ some m := fun j v m hj hv hm hum => h2.2.2 j k v u m hj hv hvu hm hum
    have hvb : ∀ (j : Nat) (v : Value) (m : Nat), vs[j]? = some v → v.ownBlock = some m → m ≠ b := fun j v m hv hm e => by
      obtain ⟨xs3, _, ho3⟩ := h2.row hv
      obtain ⟨c1, e1⟩ := rowTy ho3 hm
      obtain ⟨c2, e2⟩ := hbt
      rw [e, e2] at e1; simp at e1
    refine h5 _ (fun j => (Value.slice (some ⟨b, 0, none⟩) G.length cap).ownBlock = some j ∨ ∃ (i2 : Nat) (v2 : Value), (vs.set k u')[i2]? = some v2 ∧ v2.ownBlock = some j) (gT (.slice (some ⟨b, 0, none⟩) G.length cap) (G.set k xs')) ⟨vs.set k u', by rw [List.length_set]; exact hst, ?_, fun _ => Iff.rfl⟩ ?_ (hf2.mono fun j _ hj => ?_)
    · refine h2.set hvu hf2 (fun j v m hj hv hm hd => ?_) ?_ (fun j v m hj hv hm hum => ?_)
      · rcases hd with hd | hd
        · exact hne j v m hj hv hm hd
        · exact hvb j v m hv hm hd
      · exact ho.fr ((Fr.store W1 b k u')) fun m hm e => hu'b (by rw [← e]; exact hm)
      · rcases hat with hat | hat
        · rw [hat] at hum; exact hne j v m hj hv hm hum
        · have := hat m hum; have := h2.lt hv hm; omega
    · rintro j (hj | ⟨i2, v2, hv2, hj⟩)
      · exact .inl ((h3 j).2 (.inl hj))
      · by_cases e : i2 = k
        · subst e
          rw [List.getElem?_set_self (by rw [h2.1]; exact hkl)] at hv2
          cases hv2
          rcases hat with hat | hat
          · rw [hat] at hj; exact .inl (hSu j hj)
          · exact .inr (hat j hj)
        · rw [List.getElem?_set_ne (fun h => e h.symm)] at hv2
          exact .inl ((h3 j).2 (.inr ⟨i2, v2, hv2, hj⟩))
    · rcases hj with hj | rfl
      · exact hSu j hj
      · exact (h3 j).2 (.inl rfl)
/-- One is appended to a row that is there. -/
theorem wp_gapp {w0 W0 W : World} {B : Nat} {l : List Thing} {o : Oper} {a : Act} {K : Act → World → Prop} {Q : Exit → Act → World → Prop} (s x : Operand) (ho : o.op = .call { callee := .builtin .append, args := #[s, x], argTypes := #[27, 27] })
    (h : LK w0 B W0 W l) {b n cap : Nat} {G : List (List Int)} {k c sb : Nat} {ad : Option Addr} {xs : List Int} {y : Int} (hs : a.eval s = .slice ad xs.length c) (hx : a.eval x = .slice (some ⟨sb, 0, none⟩) 1 1) (i : Nat) (hi : l[i]? = some (gT (.slice (some ⟨b, 0, none⟩) n cap) G)) (hk : G[k]? = some xs) (hu : W.cell? ⟨b, k, none⟩ = some (.slice ad xs.length c))
    (j : Nat) (hj : l[j]? = some (bkT sb 3 [.int .i64 y])) (hl : xs.length ≤ 100000)
    (hK : ∀ ad' cap' W', LK w0 B W0 W' (l.set i holdT) → W'.cell? ⟨b, k, none⟩ = some (.slice ad xs.length c) → W'.frozen? ⟨b, k, none⟩ = false → LK w0 B W0 (W'.setCell ⟨b, k, none⟩ (.slice ad' (xs.length + 1) cap')) (l.set i (gT (.slice (some ⟨b, 0, none⟩) n cap) (G.set k (xs ++ [y])))) → K (a.put o.dst (.slice ad' (xs.length + 1) cap')) W') : o.wp Try.prog a W K Q := by
  have hb := h.1.bk j hj
  have hsl : SlAt W 1 (.slice (some ⟨sb, 0, none⟩) 1 1) 1 [.int .i64 y] := by
    refine ⟨rfl, .inr ⟨⟨sb, 0, none⟩, 1, rfl, fun k u hu => ?_⟩⟩
    rw [Addr.add_lit, Nat.zero_add, hb.cell k]
    exact hu
  obtain ⟨a2, c2, h2, h3, _⟩ := h.1.gcell i hi k xs hk
  rw [hu] at h2
  simp only [Option.some.injEq, Value.slice.injEq, true_and] at h2
  obtain ⟨rfl, rfl⟩ := h2
  refine wp_app W s x _ ho Try.sltInt _ hs h3 _ hx hsl (fun u hu => by rw [List.mem_singleton.1 hu]; rfl) (by omega) fun g cap' W' h4 h5 h6 => ?_
  have e : xs.length + 1 = (xs ++ [y]).length := by simp
  have hg := h.ggrow i hi k hk hu (u' := .slice g (xs.length + 1) cap') (xs' := xs ++ [y]) (by unfold OwnInts; rw [List.map_append, ← e]; exact h4) h5 (h6.imp id fun e k hk => by rw [e] at hk; cases hk; exact Nat.le_refl _)
  exact hK g cap' W' hg.1 hg.2.1 hg.2.2.1 hg.2.2.2
theorem OwnInts.stored {w : World} {b n cap : Nat} {xs : List Int} (h : OwnInts w 3 (.slice (some ⟨b, 0, none⟩) n cap) xs) (j : Nat) (y : Int) : OwnInts (w.setCell ⟨b, j, none⟩ (.int .i64 y)) 3 (.slice (some ⟨b, 0, none⟩) n cap) (xs.set j y) := by
  have hn : xs.length = n := by rcases h.2 with ⟨e, _⟩ | ⟨_, _, _, e, _⟩ <;> simp at e; exact e.2.1.symm
  subst hn
  have := (World.ownsRow.stored h j (.int .i64 y)).1
  unfold OwnInts
  rw [List.length_set, List.map_set]
  exact this
theorem Lies.storedI {w0 W : World} {l : List Thing} {b n cap : Nat} {xs : List Int} (h : Lies w0 W l) (i : Nat) (hi : l[i]? = some (owT (.slice (some ⟨b, 0, none⟩) n cap) xs)) (j : Nat) (y : Int) : Lies w0 (W.setCell ⟨b, j, none⟩ (.int .i64 y)) (l.set i (owT (.slice (some ⟨b, 0, none⟩) n cap) (xs.set j y))) := by
  obtain ⟨S, h1, _, h2⟩ := h.get i _ hi
  exact h2 _ S (owT (.slice (some ⟨b, 0, none⟩) n cap) (xs.set j y)) ⟨h1.1.stored j y, h1.2⟩ (fun k hk => .inl hk) ((Fr.store W b j _).mono fun k _ hk => (h1.2 k).2 (by rw [hk]; rfl))
theorem LK.storedI {w0 W0 W : World} {B : Nat} {l : List Thing} {b n cap : Nat} {xs : List Int} (h : LK w0 B W0 W l) (i : Nat) (hi : l[i]? = some (owT (.slice (some ⟨b, 0, none⟩) n cap) xs)) (j : Nat) (y : Int) : LK w0 B W0 (W.setCell ⟨b, j, none⟩ (.int .i64 y)) (l.set i (owT (.slice (some ⟨b, 0, none⟩) n cap) (xs.set j y))) := by
  obtain ⟨S, h1, _, h2⟩ := h.get i _ hi (cells_ow _ _)
  exact h2 _ S (owT (.slice (some ⟨b, 0, none⟩) n cap) (xs.set j y)) ⟨h1.1.stored j y, h1.2⟩ (fun k hk => .inl hk) ((Fr.store W b j _).mono fun k _ hk => (h1.2 k).2 (by rw [hk]; rfl))
/-- Two become one. -/
theorem Lies.merge {w0 W : World} {l : List Thing} (h : Lies w0 W l) (i j : Nat) (x y : Thing) (hij : i < j) (hi : l[i]? = some x) (hj : l[j]? = some y) :
    ∃ S T, x.At W S ∧ y.At W T ∧ (∀ k, S k → ¬ T k) ∧ ∀ (W' : World) (S' : Nat → Prop) (x' : Thing), x'.At W' S' → (∀ k, S' k → S k ∨ T k ∨ W.heap.size ≤ k) → Fr W W' (fun k => S k ∨ T k) → Lies w0 W' ((l.take j).set i x') := by
  have hsz := h.1.size
  obtain ⟨h1, F, h2, h3⟩ := h
  have hlt : ∀ i, i < l.length → ∀ k, F i k → k < W.heap.size := fun i hi k hk => l[i].lt (h2 i _ (List.getElem?_eq_getElem hi)).1 k hk
  have hil := (List.getElem?_eq_some_iff.1 hi).1
  have hjl := (List.getElem?_eq_some_iff.1 hj).1
  have hlen : (l.take j).length = j := by rw [List.length_take]; omega
  have hnew : ∀ k, F i k → w0.heap.size ≤ k := (h2 i x hi).2
  have hnew2 : ∀ k, F j k → w0.heap.size ≤ k := (h2 j y hj).2
  refine ⟨F i, F j, (h2 i x hi).1, (h2 j y hj).1, h3 i j hil hjl (by omega), fun W' S' x' hx hS hf => ⟨h1.trans hf fun k hk hs => ?_, fun m => if m = i then S' else F m, fun m z hz => ?_, fun a b ha hb hab k => ?_⟩⟩
  · rcases hs with hs | hs
    · have := hnew k hs; omega
    · have := hnew2 k hs; omega
  · dsimp only
    by_cases e : m = i
    · subst e
      rw [if_pos rfl]
      rw [List.getElem?_set_self (by rw [hlen]; exact hij)] at hz
      cases hz
      exact ⟨hx, fun k hk => by
        rcases hS k hk with h | h | h
        · exact hnew k h
        · exact hnew2 k h
        · exact Nat.le_trans hsz h⟩
    · rw [if_neg e]
      rw [List.getElem?_set_ne (fun h => e h.symm), List.getElem?_take] at hz
      split at hz
      · rename_i hm
        have hml := (List.getElem?_eq_some_iff.1 hz).1
        exact ⟨z.fr (h2 m z hz).1 hf fun k hk hs => hs.elim (h3 m i hml hil e k hk) (h3 m j hml hjl (by omega) k hk), (h2 m z hz).2⟩
      · cases hz
  · rw [List.length_set, hlen] at ha hb
    have key : ∀ m, m < j → m ≠ i → ∀ k, S' k → ¬ F m k := fun m hm hmi k q1 q2 => by
      rcases hS k q1 with q | q | q
      · exact h3 i m hil (by omega) (Ne.symm hmi) k q q2
      · exact h3 j m hjl (by omega) (by omega) k q q2
      · have := hlt m (by omega) k q2; omega
    dsimp only
    by_cases e : a = i
    · rw [if_pos e, if_neg (by omega)]
      exact key b hb (by omega) k
    · rw [if_neg e]
      by_cases e2 : b = i
      · rw [if_pos e2]
        exact fun q1 q2 => key a ha e k q2 q1
      · rw [if_neg e2]
        exact h3 a b (by omega) (by omega) hab k
/-- A row takes its place. -/
theorem Lies.gput {w0 W : World} {l : List Thing} {b n cap : Nat} {G : List (List Int)} {u' : Value} {xs' : List Int} (h : Lies w0 W l) (i j : Nat) (hij : i < j) (hi : l[i]? = some (gT (.slice (some ⟨b, 0, none⟩) n cap) G)) (hj : l[j]? = some (owT u' xs')) (k : Nat) (hk : k < G.length) :
    Lies w0 (W.setCell ⟨b, k, none⟩ u') ((l.take j).set i (gT (.slice (some ⟨b, 0, none⟩) n cap) (G.set k xs'))) := by
  obtain ⟨S, T, ⟨vs, h1, h2, h3⟩, ⟨h6, h7⟩, h4, h5⟩ := h.merge i j _ _ hij hi hj
  have hn : G.length = n := by rcases h1.2 with ⟨e, _⟩ | ⟨_, _, _, e, _⟩ <;> simp at e; exact e.2.1.symm
  subst hn
  have hvl : k < vs.length := by rw [h2.1]; exact hk
  have hst := (World.ownsRow.stored h1 k u').1
  have hbS : S b := (h3 b).2 (.inl rfl)
  have hf2 : Fr W (W.setCell ⟨b, k, none⟩ u') (fun j => j = b) := Fr.store W b k u'
  refine h5 _ (fun j => (Value.slice (some ⟨b, 0, none⟩) G.length cap).ownBlock = some j ∨ ∃ (i2 : Nat) (v2 : Value), (vs.set k u')[i2]? = some v2 ∧ v2.ownBlock = some j) _ ⟨vs.set k u', by rw [List.length_set]; exact hst, ?_, fun _ => Iff.rfl⟩ ?_ (hf2.mono fun j _ hj => .inl (by rw [hj]; exact hbS))
  · refine h2.set (List.getElem?_eq_getElem hvl) hf2 (fun j v m hj hv hm hd => ?_) (h6.fr hf2 fun m hm e => h4 b hbS ((h7 b).2 (by rw [← e]; exact hm))) (fun j v m hj hv hm hum => h4 m ((h3 m).2 (.inr ⟨j, v, hv, hm⟩)) ((h7 m).2 hum))
    subst hd
    obtain ⟨xs3, _, ho3⟩ := h2.row hv
    obtain ⟨c1, e1⟩ := rowTy ho3 hm
    rcases h1.2 with ⟨e, _⟩ | ⟨g, c, cur, e, _, hg, _⟩
    · simp at e
    · simp at e; obtain ⟨rfl, _⟩ := e; rw [hg] at e1; simp at e1
  · rintro j (hj | ⟨i2, v2, hv2, hj⟩)
    · exact .inl ((h3 j).2 (.inl hj))
    · by_cases e : i2 = k
      · subst e
        rw [List.getElem?_set_self hvl] at hv2
        cases hv2
        exact .inr (.inl ((h7 j).2 hj))
      · rw [List.getElem?_set_ne (fun h => e h.symm)] at hv2
        exact .inl ((h3 j).2 (.inr ⟨i2, v2, hv2, hj⟩))
/-- Rows of nothing, made. -/
theorem Lies.gmade {w0 W W' : World} {l : List Thing} {n g : Nat} (h : Lies w0 W l) (hg : g = W.heap.size) (ho : W'.ownsRow 0 27 1 (.slice (some ⟨g, 0, none⟩) n n) n (madeCells (Value.slice none 0 0).cells (n * 1)).toList) (hf : Fr W W' Nil) : Lies w0 W' (l ++ [gT (.slice (some ⟨g, 0, none⟩) n n) (List.replicate n [])]) := by
  have e : (madeCells (Value.slice none 0 0).cells (n * 1)).toList = List.replicate n (Value.slice none 0 0) := by
    rw [Nat.mul_one]; exact toList_madeCells_one _ _
  rw [e] at ho
  have hrep : ∀ {α : Type} (a b : α) (i : Nat), (List.replicate n a)[i]? = some b → a = b := fun a b i h => by
    have hl := (List.getElem?_eq_some_iff.1 h).1
    simp at hl
    rw [List.getElem?_replicate, if_pos hl] at h
    cases h; rfl
  refine h.add _ (S := fun k => k = g) ⟨List.replicate n (.slice none 0 0), by rw [List.length_replicate]; exact ho, ⟨by simp, fun i xs hi => ?_, fun i j u v k _ hu hv hk => ?_⟩, fun k => ⟨fun e => .inl (by rw [e]; rfl), ?_⟩⟩ (fun k hk => by omega) hf
  · have hl := (List.getElem?_eq_some_iff.1 hi).1
    simp at hl
    obtain rfl := hrep _ _ _ hi
    exact ⟨.slice none 0 0, by rw [List.getElem?_replicate, if_pos hl], World.ownsRow_nil _ _ _ _⟩
  · obtain rfl := hrep _ _ _ hu
    cases hk
  · rintro (hk | ⟨i, u, hu, hk⟩)
    · cases hk; rfl
    · obtain rfl := hrep _ _ _ hu
      cases hk
end Go.Proofs.Ytkeiphmhckkniaa
