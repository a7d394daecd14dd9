/-
  The log of undoing: walks of Forget, Touched.
  No condition but sizes.
-/
import Derived.Test.YtgpekgnhbccnoaaGreatPkZb16
import Derived.Laws.EntriesVeiled
namespace Go.Proofs.YtgpekgnhbccnoaaGreat
open Go Go.RowKit Go.Maps

theorem bk_ne_map {w : World} {lb mb : Nat} {e : TypeId} {cs : List Value} {κ α : Type} {P : Program} {k : TypeId} {key : κ → Lit} {enc : α → Value} {M : List (κ × α)} (h : Bk w lb e cs) (hm : MapAt P k key enc w mb M) : lb ≠ mb := fun e => by
  subst e
  obtain ⟨D, ⟨es, ck, hm, _⟩, _⟩ := hm
  unfold Bk at h
  rw [h] at hm; cases hm
def UForgetRet (lb : Nat) (most : Int) (L : List (Int × Ent)) (S : Nat → Prop) (who : Int) (w : World) (e : Ending) (w' : World) : Prop := e = .returned (.tuple #[]) ∧ LogAt w' lb most (forgetL L who) S ∧ Fr w w' S
theorem slRow : SlT Tryz.prog 124 128 2 32 := SlT.mk (z := .agg #[.int .i64 0, .slice none 0 0]) Tryz.underlying124 (by kernel_rfl) (by rfl) (by decide) (by decide)
def touchR (e : Ent) : Int × List Int := (e.2.1, [e.1])
theorem own_lit1 (w : World) (b : Nat) (x : Int) (hb : w.heap.size = b) : OwnInts (w.alloc (.cells #[.int .i64 x] 2)) 2 (.slice (some ⟨b, 0, none⟩) 1 1) [x] := by
  subst hb
  have := World.ownsRow_lit (base := 0) (e := 2) (size := 1) w #[Value.int .i64 x] 1 (Nat.zero_le _) (by decide) rfl
  simpa [OwnInts] using this
theorem sl_row1 (w : World) (e : TypeId) (b : Nat) (k : Int) (v : Value) (hb : w.heap.size = b) : SlAt (w.alloc (.cells #[.int .i64 k, v] e)) 2 (.slice (some ⟨b, 0, none⟩) 1 1) 1 [.int .i64 k, v] := by
  subst hb
  refine ⟨rfl, .inr ⟨_, 1, rfl, fun j u hu => ?_⟩⟩
  rw [Addr.add_lit, Nat.zero_add, (Bk.new w e #[.int .i64 k, v]).cell j]
  simpa using hu
theorem own_some {w : World} {base : Nat} {e : TypeId} {size n c : Nat} {a : Option Addr} {xs : List Value} (h : w.ownsRow base e size (.slice a n c) n xs) (hn : 0 < n) : ∃ b, a = some ⟨b, 0, none⟩ := by
  rcases h.2 with ⟨_, h2⟩ | ⟨g, cap, cur, h1, _⟩
  · omega
  · cases h1; exact ⟨g, rfl⟩

end Go.Proofs.YtgpekgnhbccnoaaGreat
