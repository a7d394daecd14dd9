/-
 Rows of integers (int64) as things that lie apart.
 No condition.
 Terms in memory, as they are read.
 No condition.
-/
import Derived.Lib.Walk
import Derived.Test.YtgpekgnhbccnoaaGreatProg
import Derived.Test.YtgpekgnhbccnoaaGreatPkY4
namespace Go.Proofs.YtgpekgnhbccnoaaGreat
open Go Go.RowKit

/-- What is asked of the type. -/
theorem Tryz.sltRun : SlT Tryz.prog 24 2 1 8 := SlT.mk (z := .int .i64 0) Tryz.underlying24 (by kernel_rfl) (by rfl) (by decide) (by decide)
def owI (v : Value) (l : List Int) : Thing where
 At w S := OwnInts w 2 v l ∧ ∀ k, S k ↔ v.ownBlock = some k
 fr h hf hd := ⟨h.1.fr hf fun k hk => hd k ((h.2 k).2 hk), h.2⟩
 lt h k hk := h.1.lt k ((h.2 k).1 hk)
theorem Lies.rowI {w0 W : World} {l : List Thing} {v : Value} {xs : List Int} (h : Lies w0 W l) (i : Nat) (hi : l[i]? = some (owI v xs)) : OwnInts W 2 v xs := by
 obtain ⟨S, h1, _⟩ := h.get i _ hi
 exact h1.1
theorem Lies.nilI {w0 W : World} {l : List Thing} (h : Lies w0 W l) : Lies w0 W (l ++ [owI (.slice none 0 0) []]) :=
 h.add (owI (.slice none 0 0) []) (S := fun _ => False) ⟨World.ownsRow_nil _ _ _ _, fun k => by simp [Value.ownBlock]⟩ (fun k hk => hk.elim) (Fr.refl W Nil)
/-- A piece ahead. -/
theorem Lies.takeI {w0 W : World} {l : List Thing} {a : Option Addr} {n cap : Nat} {xs : List Int} (h : Lies w0 W l) (i : Nat) (hi : l[i]? = some (owI (.slice a n cap) xs)) (hn : n = xs.length) (k : Nat) (hk : k ≤ n) : Lies w0 W (l.set i (owI (.slice a k cap) (xs.take k))) := by
 obtain ⟨S, h1, _, h2⟩ := h.get i _ hi
 have hob : (Value.slice a k cap).ownBlock = (Value.slice a n cap).ownBlock := by cases a <;> rfl
 exact h2 W S _ ⟨h1.1.takeN hn k hk, fun j => by rw [hob]; exact h1.2 j⟩ (fun j hj => .inl hj) (Fr.refl _ _)
theorem OwnInts.setN {w : World} {e : TypeId} {b n cap : Nat} {xs : List Int} (h : OwnInts w e (.slice (some ⟨b, 0, none⟩) n cap) xs) (hn : n = xs.length) (c : Nat) (x : Int) :
  OwnInts (w.setCell ⟨b, c, none⟩ (.int .i64 x)) e (.slice (some ⟨b, 0, none⟩) n cap) (xs.set c x) := by
 subst hn
 refine ⟨by simp, ?_⟩
 rcases h.2 with ⟨he, _⟩ | ⟨g, cap', cur, he, hb, hg, hc, hm, hs, ht⟩
 ·cases he
 ·cases he
  refine .inr ⟨b, cap, cur.setIfInBounds c (.int .i64 x), by rw [List.length_set], Nat.zero_le _, ?_, by rw [List.length_set]; exact hc, hm, by simpa using hs, ?_⟩
  ·rw [heap_setCell_same w b c _ e _ hg]
  ·rw [List.length_set, Array.toList_setIfInBounds, List.take_set, ht, List.map_set]
/-- One is set. -/
theorem Lies.setI {w0 W : World} {l : List Thing} {b n cap : Nat} {xs : List Int} (h : Lies w0 W l) (i : Nat) (hi : l[i]? = some (owI (.slice (some ⟨b, 0, none⟩) n cap) xs)) (hn : n = xs.length) (c : Nat) (x : Int) : Lies w0 (W.setCell ⟨b, c, none⟩ (.int .i64 x)) (l.set i (owI (.slice (some ⟨b, 0, none⟩) n cap) (xs.set c x))) := by
 obtain ⟨S, h1, _, h2⟩ := h.get i _ hi
 exact h2 _ S _ ⟨h1.1.setN hn c x, h1.2⟩ (fun j hj => .inl hj) ((Fr.store W b c _).mono fun k _ hk => (h1.2 k).2 (by subst hk; rfl))
end Go.Proofs.YtgpekgnhbccnoaaGreat
namespace Go.Proofs.YtgpekgnhbccnoaaGreat
open Go Go.RowKit

def TermD.vals (t : TermD) : List Value := [.int .u8 t.kind, .int .i64 t.n, .int .i64 t.v]
def TermsAt (w : World) (v : Value) (l : List TermD) : Prop := SlAt w 3 v l.length (l.flatMap TermD.vals)
theorem TermsAt.shape {w : World} {v : Value} {l : List TermD} (h : TermsAt w v l) : ∃ a cap, v = .slice a l.length cap := SlAt.shape h
theorem TermsAt.fr0 {w w' : World} {v : Value} {l : List TermD} (h : TermsAt w v l) (hf : Fr w w' Nil) : TermsAt w' v l := SlAt.fr0 h hf
theorem TermsAt.form {w : World} {v : Value} {l : List TermD} (h : TermsAt w v l) (hn : 0 < l.length) : ∃ b off cap, v = .slice (some ⟨b, off, none⟩) l.length cap ∧
  ∀ i t, l[i]? = some t → w.cell? ⟨b, off + i * 3, none⟩ = some (.int .u8 t.kind) ∧ w.cell? ⟨b, off + i * 3 + 1, none⟩ = some (.int .i64 t.n) ∧ w.cell? ⟨b, off + i * 3 + 2, none⟩ = some (.int .i64 t.v) := by
 obtain ⟨b, off, cap, rfl, hc⟩ := flat_form (n := 3) (f := TermD.vals) (fun _ => rfl) (by decide) h hn
 exact ⟨b, off, cap, rfl, fun i t ht => ⟨hc i t ht 0 _ rfl, hc i t ht 1 _ rfl, hc i t ht 2 _ rfl⟩⟩
end Go.Proofs.YtgpekgnhbccnoaaGreat
