/-
  Rows of integers (int64) as things that lie apart.
  No condition.
  Terms in memory, as they are read.
  No condition.
-/
import Derived.Lib.Walk
import Derived.Test.YtgpekgnhbccnoaaGreatProg
import Derived.Test.YtgpekgnhbccnoaaGreatPkZb4
namespace Go.Proofs.YtgpekgnhbccnoaaGreat
open Go Go.RowKit

/-- What is asked of the type. -/
theorem Tryz.sltRun : SlT Tryz.prog 24 2 1 8 := SlT.mk (z := .int .i64 0) Tryz.underlying24 (by kernel_rfl) (by rfl) (by decide) (by decide)
def owI (v : Value) (l : List Int) : Thing where
  At w S := OwnInts w 2 v l ∧ ∀ k, S k ↔ v.ownBlock = some k
  fr h hf hd := ⟨h.1.fr hf fun k hk => hd k ((h.2 k).2 hk), h.2⟩
  lt h k hk := h.1.lt k ((h.2 k).1 hk)
theorem Lies.rowI {w0 W : World} {l : List Thing} {v : Value} {xs : List Int} (h : Lies w0 W l) (i : Nat) (hi : l[i]? = some (owI v xs)) : OwnInts W 2 v xs := by
  obtain ⟨S, h1, _⟩ := h.get i _ hi
  exact h1.1
theorem Lies.nilI {w0 W : World} {l : List Thing} (h : Lies w0 W l) : Lies w0 W (l ++ [owI (.slice none 0 0) []]) :=
  h.add (owI (.slice none 0 0) []) (S := fun _ => False) ⟨World.ownsRow_nil _ _ _ _, fun k => by simp [Value.ownBlock]⟩ (fun k hk => hk.elim) (Fr.refl W Nil)
/-- A piece ahead. -/
theorem Lies.takeI {w0 W : World} {l : List Thing} {a : Option Addr} {n cap : Nat} {xs : List Int} (h : Lies w0 W l) (i : Nat) (hi : l[i]? = some (owI (.slice a n cap) xs)) (hn : n = xs.length) (k : Nat) (hk : k ≤ n) : Lies w0 W (l.set i (owI (.slice a k cap) (xs.take k))) := by
  obtain ⟨S, h1, _, h2⟩ := h.get i _ hi
  have hob : (Value.slice a k cap).ownBlock = (Value.slice a n cap).ownBlock := by cases a <;> rfl
  exact h2 W S _ ⟨h1.1.takeN hn k hk, fun j => by rw [hob]; exact h1.2 j⟩ (fun j hj => .inl hj) (Fr.refl _ _)
theorem OwnInts.setN {w : World} {e : TypeId} {b n cap : Nat} {xs : List Int} (h : OwnInts w e (.slice (some ⟨b, 0, none⟩) n cap) xs) (hn : n = xs.length) (c : Nat) (x : Int) :
    OwnInts (w.setCell ⟨b, c, none⟩ (.int .i64 x)) e (.slice (some ⟨b, 0, none⟩) n cap) (xs.set c x) := by
  subst hn
  refine ⟨by simp, ?_⟩
  rcases h.2 with ⟨he, _⟩ | ⟨g, cap', cur, he, hb, hg, hc, hm, hs, ht⟩
  · cases he
  · cases he
    refine .inr ⟨b, cap, cur.setIfInBounds c (.int .i64 x), by rw [List.length_set], Nat.zero_le _, ?_, by rw [List.length_set]; exact hc, hm, by simpa using hs, ?_⟩
    · rw [heap_setCell_same w b c _ e _ hg]
    · rw [List.length_set, Array.toList_setIfInBounds, List.take_set, ht, List.map_set]
/-- One is set. -/
theorem Lies.setI {w0 W : World} {l : List Thing} {b n cap : Nat} {xs : List Int} (h : Lies w0 W l) (i : Nat) (hi : l[i]? = some (owI (.slice (some ⟨b, 0, none⟩) n cap) xs)) (hn : n = xs.length) (c : Nat) (x : Int) : Lies w0 (W.setCell ⟨b, c, none⟩ (.int .i64 x)) (l.set i (owI (.slice (some ⟨b, 0, none⟩) n cap) (xs.set c x))) := by
  obtain ⟨S, h1, _, h2⟩ := h.get i _ hi
  exact h2 _ S _ ⟨h1.1.setN hn c x, h1.2⟩ (fun j hj => .inl hj) ((Fr.store W b c _).mono fun k _ hk => (h1.2 k).2 (by subst hk; rfl))
/-- One is appended. -/
theorem wp_iapp {w0 W : World} {l : List Thing} {o : Oper} {a : Act} {K : Act → World → Prop} {Q : Exit → Act → World → Prop} (s x : Operand) (ho : o.op = .call { callee := .builtin .append, args := #[s, x], argTypes := #[24, 24] })
    (h : Lies w0 W l) {v : Value} {xs : List Int} {sb : Nat} {y : Int} (hs : a.eval s = v) (hx : a.eval x = .slice (some ⟨sb, 0, none⟩) 1 1) (i : Nat) (hi : l[i]? = some (owI v xs)) (j : Nat) (hj : l[j]? = some (bkT sb 2 [.int .i64 y])) (hl : xs.length ≤ 100000)
    (hK : ∀ ad cap W', Lies w0 W' (l.set i (owI (.slice ad (xs.length + 1) cap) (xs ++ [y]))) → K (a.put o.dst (.slice ad (xs.length + 1) cap)) W') : o.wp Tryz.prog a W K Q := by
  have hb := h.bk j hj
  have hsl : SlAt W 1 (.slice (some ⟨sb, 0, none⟩) 1 1) 1 [.int .i64 y] := by
    refine ⟨rfl, .inr ⟨⟨sb, 0, none⟩, 1, rfl, fun k u hu => ?_⟩⟩
    rw [Addr.add_lit, Nat.zero_add, hb.cell k]
    exact hu
  refine wp_app W s x _ ho Tryz.sltRun v hs (h.rowI i hi) _ hx hsl (fun u hu => by rw [List.mem_singleton.1 hu]; rfl) (by omega) fun g cap W' h2 h3 h4 => ?_
  have e : xs.length + 1 = (xs ++ [y]).length := by simp
  obtain ⟨S, k1, _, k2⟩ := h.get i _ hi
  refine hK g cap W' (k2 W' (fun k => (Value.slice g (xs.length + 1) cap).ownBlock = some k) _ ⟨by unfold OwnInts; rw [List.map_append, ← e]; exact h2, fun _ => Iff.rfl⟩ (fun k hk => ?_) ((Fr.refl W _).grown h3 fun k hk _ => (k1.2 k).2 hk))
  rcases h4 with e4 | e4
  · exact .inl ((k1.2 k).2 (by rw [← e4]; exact hk))
  · rw [e4] at hk; cases hk; exact .inr (Nat.le_refl _)
end Go.Proofs.YtgpekgnhbccnoaaGreat
namespace Go.Proofs.YtgpekgnhbccnoaaGreat
open Go Go.RowKit

def TermD.vals (t : TermD) : List Value := [.int .u8 t.kind, .int .i64 t.n, .int .i64 t.v]
def TermsAt (w : World) (v : Value) (l : List TermD) : Prop := SlAt w 3 v l.length (l.flatMap TermD.vals)
theorem TermsAt.shape {w : World} {v : Value} {l : List TermD} (h : TermsAt w v l) : ∃ a cap, v = .slice a l.length cap := SlAt.shape h
theorem TermsAt.fr0 {w w' : World} {v : Value} {l : List TermD} (h : TermsAt w v l) (hf : Fr w w' Nil) : TermsAt w' v l := SlAt.fr0 h hf
theorem TermsAt.form {w : World} {v : Value} {l : List TermD} (h : TermsAt w v l) (hn : 0 < l.length) : ∃ b off cap, v = .slice (some ⟨b, off, none⟩) l.length cap ∧
    ∀ i t, l[i]? = some t → w.cell? ⟨b, off + i * 3, none⟩ = some (.int .u8 t.kind) ∧ w.cell? ⟨b, off + i * 3 + 1, none⟩ = some (.int .i64 t.n) ∧ w.cell? ⟨b, off + i * 3 + 2, none⟩ = some (.int .i64 t.v) := by
  obtain ⟨b, off, cap, rfl, hc⟩ := flat_form (n := 3) (f := TermD.vals) (fun _ => rfl) (by decide) h hn
  exact ⟨b, off, cap, rfl, fun i t ht => ⟨hc i t ht 0 _ rfl, hc i t ht 1 _ rfl, hc i t ht 2 _ rfl⟩⟩
end Go.Proofs.YtgpekgnhbccnoaaGreat
