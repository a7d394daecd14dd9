/-
  The document's table of locks as it lies in memory: a row of holds, a row of wishes.
  No condition.
-/
import Derived.Test.YtokeciekncincabGreatPkC10
import Derived.Test.YtokeciekncincabGreatPkC17
namespace Go.Proofs.YtokeciekncincabGreat
open Go Go.RowKit Go.Maps

abbrev ent5 (e : LkE) : List Value := [.int .i64 e.s.1, .bool e.s.2.1, .int .i64 e.s.2.2, .int .i64 e.who, .int .u8 e.m]
/-- A row of entries of its own. -/
def OwnE (w : World) (v : Value) (l : List LkE) : Prop := w.ownsRow 0 96 5 v l.length (l.flatMap ent5)
theorem OwnE.nil (w : World) : OwnE w (.slice none 0 0) [] := World.ownsRow_nil _ _ _ _
theorem OwnE.shape {w : World} {v : Value} {l : List LkE} (h : OwnE w v l) : ∃ a cap, v = .slice a l.length cap := by
  rcases h.2 with ⟨rfl, hn⟩ | ⟨g, cap, cur, rfl, rest⟩
  · exact ⟨none, 0, by rw [hn]⟩
  · exact ⟨_, cap, rfl⟩
theorem OwnE.fr {w w' : World} {v : Value} {l : List LkE} {S : Nat → Prop} (h : OwnE w v l) (hf : Fr w w' S) (hv : ∀ k, v.ownBlock = some k → ¬ S k) : OwnE w' v l := hf.own h hv
theorem OwnE.lt {w : World} {v : Value} {l : List LkE} (h : OwnE w v l) {k : Nat} (hk : v.ownBlock = some k) : k < w.heap.size := (World.ownsRow.lt h k hk).2
theorem ent_cells {w : World} {v : Value} {l : List LkE} (h : SlAt w 5 v l.length (l.flatMap ent5)) (hn : 0 < l.length) : ∃ b off cap, v = .slice (some ⟨b, off, none⟩) l.length cap ∧
    ∀ i e, l[i]? = some e → w.cell? ⟨b, off + i * 5, none⟩ = some (.int .i64 e.s.1) ∧ w.cell? ⟨b, off + i * 5 + 1, none⟩ = some (.bool e.s.2.1) ∧ w.cell? ⟨b, off + i * 5 + 2, none⟩ = some (.int .i64 e.s.2.2) ∧ w.cell? ⟨b, off + i * 5 + 3, none⟩ = some (.int .i64 e.who) ∧ w.cell? ⟨b, off + i * 5 + 4, none⟩ = some (.int .u8 e.m) := by
  obtain ⟨b, off, cap, rfl, hcell⟩ := flat_form (n := 5) (f := ent5) (fun _ => rfl) (by decide) h hn
  refine ⟨b, off, cap, rfl, fun i e he => ?_⟩
  have p0 := hcell i e he 0 _ rfl
  have p1 := hcell i e he 1 _ rfl
  have p2 := hcell i e he 2 _ rfl
  have p3 := hcell i e he 3 _ rfl
  have p4 := hcell i e he 4 _ rfl
  simp only [Nat.add_zero] at p0
  exact ⟨p0, p1, p2, p3, p4⟩
theorem OwnE.form {w : World} {v : Value} {l : List LkE} (h : OwnE w v l) (hn : 0 < l.length) : ∃ b cap, v = .slice (some ⟨b, 0, none⟩) l.length cap ∧ l.length ≤ cap ∧
    ∀ i e, l[i]? = some e → w.cell? ⟨b, i * 5, none⟩ = some (.int .i64 e.s.1) ∧ w.cell? ⟨b, i * 5 + 1, none⟩ = some (.bool e.s.2.1) ∧ w.cell? ⟨b, i * 5 + 2, none⟩ = some (.int .i64 e.s.2.2) ∧ w.cell? ⟨b, i * 5 + 3, none⟩ = some (.int .i64 e.who) ∧ w.cell? ⟨b, i * 5 + 4, none⟩ = some (.int .u8 e.m) := by
  rcases h.2 with ⟨_, h0⟩ | ⟨g, cap, cur, rfl, h1, h2, hc, h3⟩
  · omega
  · refine ⟨g, cap, rfl, hc, fun i e he => ?_⟩
    obtain ⟨b, off, cap', hv, hcell⟩ := ent_cells (SlAt.of_own h).1 hn
    cases hv
    have h1 := hcell i e he
    simp only [Nat.zero_add] at h1
    exact h1
theorem entT : SlT Tryz.prog 60 96 5 40 := SlT.mk (z := .agg #[.int .i64 0, .bool false, .int .i64 0, .int .i64 0, .int .u8 0]) Tryz.underlying60 (by kernel_rfl) rfl (by decide) (by decide)
theorem ent_one (e : LkE) : ∀ u ∈ ent5 e, u.oneCell' = true := by
  intro u hu
  simp only [List.mem_cons, List.not_mem_nil, or_false] at hu
  rcases hu with rfl | rfl | rfl | rfl | rfl <;> rfl
theorem ent_new (W : World) (e : LkE) : SlAt (W.alloc (.cells #[.int .i64 e.s.1, .bool e.s.2.1, .int .i64 e.s.2.2, .int .i64 e.who, .int .u8 e.m] 96)) 5 (.slice (some ⟨W.heap.size, 0, none⟩) 1 1) 1 (ent5 e) := by
  refine ⟨rfl, .inr ⟨⟨W.heap.size, 0, none⟩, 1, rfl, fun k u hu => ?_⟩⟩
  have h1 := (Bk.new W 96 #[.int .i64 e.s.1, .bool e.s.2.1, .int .i64 e.s.2.2, .int .i64 e.who, .int .u8 e.m]).cell k
  rw [Addr.add_lit, Nat.zero_add, h1]
  exact hu
/-- .. appended. -/
theorem OwnE.snoc {w : World} {g : Option Addr} {n cap : Nat} {l : List LkE} {e : LkE} (hl : l.length = n) (h : w.ownsRow 0 96 5 (.slice g (n + 1) cap) (n + 1) (l.flatMap ent5 ++ ent5 e)) : OwnE w (.slice g (n + 1) cap) (l ++ [e]) := by
  show World.ownsRow _ _ _ _ _ _ _
  rw [List.length_append, List.flatMap_append, hl]
  simpa using h
/-! ### the table -/
structure DkG (w : World) (mb : Nat) (D : LkS) (hv wv : Value) (S : Nat → Prop) : Prop where
  root : Bk w mb 62 [.int .i64 D.most, hv, wv]
  holds : OwnE w hv D.H
  wishes : OwnE w wv D.W
  far : ∀ k, hv.ownBlock = some k → wv.ownBlock ≠ some k
  inB : S mb
  inH : ∀ k, hv.ownBlock = some k → S k
  inW : ∀ k, wv.ownBlock = some k → S k
  lt : ∀ k, S k → k < w.heap.size
section
variable {w w' : World} {mb : Nat} {D : LkS} {hv wv : Value} {S : Nat → Prop}
theorem DkG.fr {T : Nat → Prop} (h : DkG w mb D hv wv S) (hf : Fr w w' T) (hd : ∀ k, S k → ¬ T k) : DkG w' mb D hv wv S :=
  ⟨h.root.fr hf (hd _ h.inB), h.holds.fr hf fun k hk => hd k (h.inH k hk), h.wishes.fr hf fun k hk => hd k (h.inW k hk), h.far, h.inB, h.inH, h.inW, fun k hk => Nat.lt_of_lt_of_le (h.lt k hk) hf.size⟩
theorem DkG.fr0 (h : DkG w mb D hv wv S) (hf : Fr w w' Nil) : DkG w' mb D hv wv S := h.fr hf fun _ _ h => h
theorem DkG.hx (h : DkG w mb D hv wv S) : hv.ownBlock ≠ some mb := fun e => row_not_bk h.holds e h.root (by decide)
theorem DkG.wx (h : DkG w mb D hv wv S) : wv.ownBlock ≠ some mb := fun e => row_not_bk h.wishes e h.root (by decide)
/-- Another row of holds is set. -/
theorem DkG.setH {H' : List LkE} {v : Value} (h : DkG w mb D hv wv S) (hf : Fr w w' Nil) (hv' : OwnE w' v H') (hn : ∀ k, v.ownBlock = some k → w.heap.size ≤ k) :
    DkG (w'.setCell ⟨mb, 1, none⟩ v) mb { D with H := H' } v wv (fun k => S k ∨ v.ownBlock = some k) ∧ Fr w (w'.setCell ⟨mb, 1, none⟩ v) (fun k => k = mb) := by
  have hs : Fr w' (w'.setCell ⟨mb, 1, none⟩ v) (fun k => k = mb) := Fr.store _ _ _ _
  have hmb := h.lt _ h.inB
  refine ⟨⟨(h.root.fr hf fun h => h).set 1 v, hv'.fr hs fun k hk e => by have := hn k hk; have e2 : k = mb := e; omega, (h.wishes.fr hf fun _ _ h => h).fr hs fun k hk e => h.wx (by rw [hk]; exact congrArg some e), fun k hk hk2 => ?_, .inl h.inB, fun k hk => .inr hk, fun k hk => .inl (h.inW k hk), fun k hk => ?_⟩, hf.of_nil.trans hs fun _ _ h => h⟩
  · have h1 := hn k hk
    have h2 := h.wishes.lt hk2
    omega
  · have h9 : (w'.setCell ⟨mb, 1, none⟩ v).heap.size = w'.heap.size := by simp
    rw [h9]
    rcases hk with hk | hk
    · exact Nat.lt_of_lt_of_le (h.lt k hk) hf.size
    · exact hv'.lt hk
/-- Another row of wishes is set: a new one, or the old one grown. -/
theorem DkG.setW {W' : List LkE} {v : Value} {T : Nat → Prop} (h : DkG w mb D hv wv S) (hf : Fr w w' T) (hT : ∀ k, T k → wv.ownBlock = some k) (hv' : OwnE w' v W') (hn : ∀ k, v.ownBlock = some k → wv.ownBlock = some k ∨ w.heap.size ≤ k) :
    DkG (w'.setCell ⟨mb, 2, none⟩ v) mb { D with W := W' } hv v (fun k => S k ∨ v.ownBlock = some k) ∧ Fr w (w'.setCell ⟨mb, 2, none⟩ v) S := by
  have hs : Fr w' (w'.setCell ⟨mb, 2, none⟩ v) (fun k => k = mb) := Fr.store _ _ _ _
  have hmb := h.lt _ h.inB
  have hvx : ∀ k, v.ownBlock = some k → k ≠ mb := fun k hk e => by
    rcases hn k hk with h1 | h1
    · exact h.wx (by rw [← e]; exact h1)
    · omega
  refine ⟨⟨(h.root.fr hf fun h1 => h.wx (hT _ h1)).set 2 v, (h.holds.fr hf fun k hk h1 => h.far k hk (hT k h1)).fr hs fun k hk e => h.hx (by rw [hk]; exact congrArg some e), hv'.fr hs fun k hk e => hvx k hk e, fun k hk hk2 => ?_, .inl h.inB, fun k hk => .inl (h.inH k hk), fun k hk => .inr hk, fun k hk => ?_⟩, (hf.mono fun k _ h1 => h.inW k (hT k h1)).trans hs fun k _ e => by have e2 : k = mb := e; rw [e2]; exact h.inB⟩
  · rcases hn k hk2 with h1 | h1
    · exact h.far k hk h1
    · have h2 := h.holds.lt hk
      omega
  · have h9 : (w'.setCell ⟨mb, 2, none⟩ v).heap.size = w'.heap.size := by simp
    rw [h9]
    rcases hk with hk | hk
    · exact Nat.lt_of_lt_of_le (h.lt k hk) hf.size
    · exact hv'.lt hk
end
/-- At mb lies the document's table of locks that reads as D; all that it is lies in S. -/
def DkA (w : World) (mb : Nat) (D : LkS) (S : Nat → Prop) : Prop := ∃ hv wv, DkG w mb D hv wv S
theorem DkA.fr {w w' : World} {mb : Nat} {D : LkS} {S T : Nat → Prop} (h : DkA w mb D S) (hf : Fr w w' T) (hd : ∀ k, S k → ¬ T k) : DkA w' mb D S := by
  obtain ⟨hv, wv, h⟩ := h
  exact ⟨hv, wv, h.fr hf hd⟩
theorem DkA.fr0 {w w' : World} {mb : Nat} {D : LkS} {S : Nat → Prop} (h : DkA w mb D S) (hf : Fr w w' Nil) : DkA w' mb D S := h.fr hf fun _ _ h => h
theorem DkA.lt {w : World} {mb : Nat} {D : LkS} {S : Nat → Prop} (h : DkA w mb D S) : ∀ k, S k → k < w.heap.size := by
  obtain ⟨hv, wv, h⟩ := h
  exact h.lt
abbrev mkp (mb : Nat) : Value := .pointer (some ⟨mb, 0, none⟩)
/-! ### the first of a row -/
theorem find_at {α : Type} {p : α → Bool} : ∀ {l : List α} {i : Nat} {e : α}, (∀ x ∈ l.take i, p x = false) → l[i]? = some e → p e = true → l.find? p = some e
  | [], i, e, _, h, _ => by simp at h
  | x :: l, 0, e, _, h, hp => by
    have h1 : x = e := by simpa using h
    subst h1
    rw [List.find?_cons, hp]
  | x :: l, i + 1, e, hn, h, hp => by
    have hx : p x = false := hn x (by simp)
    rw [List.find?_cons, hx]
    exact find_at (i := i) (fun y hy => hn y (by rw [List.take_succ_cons]; exact List.mem_cons_of_mem _ hy)) (by simpa using h) hp
theorem find_no {α : Type} {p : α → Bool} {l : List α} (h : ∀ x ∈ l, p x = false) : l.find? p = none := by
  rw [List.find?_eq_none]
  intro x hx
  rw [h x hx]
  exact Bool.false_ne_true
end Go.Proofs.YtokeciekncincabGreat
