/-
  Rows of spots of the call's own: a look, one set, a shorter look; two spots alike.
  No condition.
-/
import Derived.Test.YtokeciekncincabGreatPkC8
import Derived.Test.YtokeciekncincabGreatPkC9
namespace Go.Proofs.YtokeciekncincabGreat
open Go Go.RowKit Go.Maps

/-- A row of spots of its own. -/
def OwnSp (w : World) (v : Value) (l : List Spot) : Prop := w.ownsRow 0 30 3 v l.length (l.flatMap sp3)
theorem OwnSp.shape {w : World} {v : Value} {l : List Spot} (h : OwnSp w v l) : ∃ a cap, v = .slice a l.length cap := by
  rcases h.2 with ⟨rfl, hn⟩ | ⟨g, cap, cur, rfl, rest⟩
  · exact ⟨none, 0, by rw [hn]⟩
  · exact ⟨_, cap, rfl⟩
theorem OwnSp.fr {w w' : World} {v : Value} {l : List Spot} {S : Nat → Prop} (h : OwnSp w v l) (hf : Fr w w' S) (hv : ∀ k, v.ownBlock = some k → ¬ S k) : OwnSp w' v l := hf.own h hv
theorem OwnSp.lt {w : World} {v : Value} {l : List Spot} (h : OwnSp w v l) {k : Nat} (hk : v.ownBlock = some k) : k < w.heap.size := (World.ownsRow.lt h k hk).2
theorem OwnSp.form {w : World} {v : Value} {l : List Spot} (h : OwnSp w v l) (hn : 0 < l.length) : ∃ b cap, v = .slice (some ⟨b, 0, none⟩) l.length cap ∧ l.length ≤ cap ∧
    ∀ i p, l[i]? = some p → w.cell? ⟨b, i * 3, none⟩ = some (.int .i64 p.1) ∧ w.cell? ⟨b, i * 3 + 1, none⟩ = some (.bool p.2.1) ∧ w.cell? ⟨b, i * 3 + 2, none⟩ = some (.int .i64 p.2.2) := by
  rcases h.2 with ⟨_, h0⟩ | ⟨g, cap, cur, rfl, h1, h2, hc, h3⟩
  · omega
  · refine ⟨g, cap, rfl, hc, fun i p hp => ?_⟩
    obtain ⟨b, off, cap', hv, hcell⟩ := flat_form (n := 3) (f := sp3) (fun _ => rfl) (by decide) (SlAt.of_own h).1 hn
    cases hv
    have p0 := hcell i p hp 0 _ rfl
    have p1 := hcell i p hp 1 _ rfl
    have p2 := hcell i p hp 2 _ rfl
    simp only [Nat.add_zero, Nat.zero_add] at p0 p1 p2
    exact ⟨p0, p1, p2⟩
theorem sp_set (ps : List Spot) (i : Nat) (p : Spot) : (((ps.flatMap sp3).set (i * 3) (.int .i64 p.1)).set (i * 3 + 1) (.bool p.2.1)).set (i * 3 + 2) (.int .i64 p.2.2) = (ps.set i p).flatMap sp3 := by
  induction ps generalizing i with
  | nil => rfl
  | cons x ps ih =>
    cases i with
    | zero => rfl
    | succ i =>
      have e : (i + 1) * 3 = i * 3 + 1 + 1 + 1 := by omega
      rw [e]
      simp only [List.flatMap_cons, List.cons_append, List.nil_append, List.set_cons_succ, ih]
theorem OwnSp.set {w : World} {b cap : Nat} {ps : List Spot} (h : OwnSp w (.slice (some ⟨b, 0, none⟩) ps.length cap) ps) (i : Nat) (p : Spot) :
    OwnSp (((w.setCell ⟨b, i * 3, none⟩ (.int .i64 p.1)).setCell ⟨b, i * 3 + 1, none⟩ (.bool p.2.1)).setCell ⟨b, i * 3 + 2, none⟩ (.int .i64 p.2.2)) (.slice (some ⟨b, 0, none⟩) (ps.set i p).length cap) (ps.set i p) := by
  have h1 := (World.ownsRow.stored (World.ownsRow.stored (World.ownsRow.stored h (i * 3) (.int .i64 p.1)).1 (i * 3 + 1) (.bool p.2.1)).1 (i * 3 + 2) (.int .i64 p.2.2)).1
  rw [sp_set] at h1
  unfold OwnSp
  rw [List.length_set]
  exact h1
theorem OwnSp.free {w : World} {b n cap : Nat} {ps : List Spot} (h : OwnSp w (.slice (some ⟨b, 0, none⟩) n cap) ps) (hn : n = ps.length) (c : Nat) : w.frozen? ⟨b, c, none⟩ = false := by
  subst hn
  exact World.ownsRow.frozenAt h c
theorem sp_take (ps : List Spot) (i : Nat) : (ps.flatMap sp3).take (i * 3) = (ps.take i).flatMap sp3 := by
  induction ps generalizing i with
  | nil => simp
  | cons x ps ih =>
    cases i with
    | zero => simp
    | succ i =>
      have e : (i + 1) * 3 = i * 3 + 1 + 1 + 1 := by omega
      rw [e]
      simp only [List.flatMap_cons, List.cons_append, List.nil_append, List.take_succ_cons, ih]
theorem OwnSp.take {w : World} {b n cap i : Nat} {ps : List Spot} (h : OwnSp w (.slice (some ⟨b, 0, none⟩) n cap) ps) (hn : n = ps.length) (hi : i ≤ ps.length) : OwnSp w (.slice (some ⟨b, 0, none⟩) i cap) (ps.take i) := by
  subst hn
  have h1 := own_take h hi
  rw [sp_take] at h1
  have e : (ps.take i).length = i := by rw [List.length_take]; omega
  unfold OwnSp
  rw [e]; exact h1
end Go.Proofs.YtokeciekncincabGreat
