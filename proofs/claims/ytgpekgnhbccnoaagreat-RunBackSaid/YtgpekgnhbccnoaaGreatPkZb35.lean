/-
  Rows and logs as things that lie apart: what is asked of them, in these terms.
  No condition but sizes.
  What else is asked of rows, in terms of things that lie apart.
  No condition but sizes.
-/
import Derived.Test.YtgpekgnhbccnoaaGreatPkZb1
import Derived.Test.YtgpekgnhbccnoaaGreatPkZb28
import Derived.Test.YtgpekgnhbccnoaaGreatPkZb30
import Derived.Test.YtgpekgnhbccnoaaGreatPkZb26
import Derived.Test.YtgpekgnhbccnoaaGreatPkZb32
import Derived.Test.YtgpekgnhbccnoaaGreatPkZb34
namespace Go.Proofs.YtgpekgnhbccnoaaGreat
open Go Go.RowKit

def rowsT (rb : Nat) (M : List MTab) : Thing where
  At w S := Rws w rb M S
  fr h hf hd := h.fr hf hd
  lt h := h.lt
def logT (lb : Nat) (most : Int) (L : List (Int × Ent)) : Thing where
  At w S := LogAt w lb most L S
  fr h hf hd := h.fr hf hd
  lt h := h.lt
theorem api_same {w : World} {r s : Nat} {M1 M2 : List MTab} {S1 S2 : Nat → Prop} (h1 : Rws w r M1 S1) (h2 : Rws w s M2 S2) (g1 : Good M1) (g2 : Good M2) :
    Calls Tryz.prog 29 #[rptr r, rptr s] w fun e w' => e = .returned (.bool (decide (M1 = M2))) ∧ Fr w w' Nil := by
  obtain ⟨R, rfl, a2, a3, rfl, a5⟩ := h1
  obtain ⟨Q, rfl, b2, b3, rfl, b5⟩ := h2
  exact rsame_any R Q w a2 b2 g1 g2
section
variable {w0 W : World} {l : List Thing}
theorem st_put (h : Lies w0 W l) {rb : Nat} {M : List MTab} (i : Nat) (hi : l[i]? = some (rowsT rb M)) (t k : Int) (v : Value) (xs : List Int) (hg : Good M) (hv : IntsAt W v xs) (hvl : xs.length ≤ 1000000) :
    Calls Tryz.prog 36 #[rptr rb, .int .i64 t, .int .i64 k, v] W fun e W' => e = .returned (.int .i64 (mput M t k xs).2) ∧ Lies w0 W' (l.set i (rowsT rb (mput M t k xs).1)) := by
  obtain ⟨S, h1, _, h2⟩ := h.get i _ hi
  refine (api_put t k v xs h1 hg hv hvl).mono fun _ W' ⟨he, S', a, b, c⟩ => ⟨he, h2 W' S' _ a b c⟩
theorem st_del (h : Lies w0 W l) {rb : Nat} {M : List MTab} (i : Nat) (hi : l[i]? = some (rowsT rb M)) (t k : Int) (hg : Good M) :
    Calls Tryz.prog 96 #[rptr rb, .int .i64 t, .int .i64 k] W fun e W' => e = .returned (.tuple #[.bool (mdel M t k).2.1, .int .i64 (mdel M t k).2.2]) ∧ Lies w0 W' (l.set i (rowsT rb (mdel M t k).1)) := by
  obtain ⟨S, h1, _, h2⟩ := h.get i _ hi
  refine (api_del t k h1 hg).mono fun _ W' ⟨he, S', a, b, c⟩ => ⟨he, h2 W' S' _ a b c⟩
theorem st_sum (h : Lies w0 W l) {rb : Nat} {M : List MTab} (i : Nat) (hi : l[i]? = some (rowsT rb M)) (t k : Int) (hg : Good M) :
    Calls Tryz.prog 37 #[rptr rb, .int .i64 t, .int .i64 k] W fun e W' => e = .returned (.int .i64 (msum (mtab M t) k)) ∧ Lies w0 W' l := by
  obtain ⟨S, h1, _⟩ := h.get i _ hi
  exact (api_sum t k h1 hg).mono fun _ W' ⟨he, hf⟩ => ⟨he, h.fr0 hf⟩
def StNew (w0 : World) (l : List Thing) (f : Nat → Thing) (e : Ending) (W' : World) : Prop := ∃ b, e = .returned (rptr b) ∧ Lies w0 W' (l ++ [f b])
theorem st_copy (h : Lies w0 W l) {rb : Nat} {M : List MTab} (i : Nat) (hi : l[i]? = some (rowsT rb M)) (hg : Good M) :
    Calls Tryz.prog 27 #[rptr rb] W (StNew w0 l fun b => rowsT b M) := by
  obtain ⟨S, h1, _⟩ := h.get i _ hi
  refine (api_copy h1 hg).mono fun _ _ ⟨b, S', he, hr, hS, hf⟩ => ⟨b, he, h.add (rowsT b M) (S := S') hr hS hf⟩
theorem st_same (h : Lies w0 W l) {r s : Nat} {M1 M2 : List MTab} (i j : Nat) (hi : l[i]? = some (rowsT r M1)) (hj : l[j]? = some (rowsT s M2)) (g1 : Good M1) (g2 : Good M2) :
    Calls Tryz.prog 29 #[rptr r, rptr s] W fun e W' => e = .returned (.bool (decide (M1 = M2))) ∧ Lies w0 W' l := by
  obtain ⟨S, h1, _⟩ := h.get i _ hi
  obtain ⟨T, h2, _⟩ := h.get j _ hj
  exact (api_same h1 h2 g1 g2).mono fun _ W' ⟨he, hf⟩ => ⟨he, h.fr0 hf⟩
theorem st_new (h : Lies w0 W l) (most : Int) : Calls Tryz.prog 12 #[.int .i64 most] W (StNew w0 l fun b => logT b (max 0 most) []) :=
  (unew_any most W).mono fun _ _ ⟨b, S', he, hr, hS, hf⟩ => ⟨b, he, h.add (logT b (max 0 most) []) (S := S') hr hS hf⟩
theorem st_note (h : Lies w0 W l) {lb rb : Nat} {most : Int} {L : List (Int × Ent)} {M : List MTab} (i j : Nat) (hi : l[i]? = some (logT lb most L)) (hj : l[j]? = some (rowsT rb M)) (who t k : Int) (hg : Good M) (hw : (Lit.int .i64 who).wf = true) (hl : L.length ≤ 100000) :
    Calls Tryz.prog 49 #[lptr lb, .int .i64 who, rptr rb, .int .i64 t, .int .i64 k] W fun e W' => e = .returned (.int .i64 (noteE M most L t)) ∧ Lies w0 W' (l.set i (logT lb most (noteL M most L who t k))) := by
  obtain ⟨S, h1, _, h2⟩ := h.get i _ hi
  obtain ⟨T, h3, _⟩ := h.get j _ hj
  exact (unote_any who t k W h1 h3 hg hw hl).mono fun _ W' ⟨he, a, b⟩ => ⟨he, h2 W' _ _ a (fun k hk => hk.imp id fun h => h.1) b⟩
theorem st_used (h : Lies w0 W l) {lb : Nat} {most : Int} {L : List (Int × Ent)} (i : Nat) (hi : l[i]? = some (logT lb most L)) :
    Calls Tryz.prog 24 #[lptr lb] W fun e W' => e = .returned (.int .i64 L.length) ∧ Lies w0 W' l := by
  obtain ⟨S, h1, _⟩ := h.get i _ hi
  exact (uused_any W h1).mono fun _ W' ⟨he, hf⟩ => ⟨he, hf ▸ h⟩
theorem st_ulen (h : Lies w0 W l) {lb : Nat} {most : Int} {L : List (Int × Ent)} (i : Nat) (hi : l[i]? = some (logT lb most L)) (who : Int) (hw : (Lit.int .i64 who).wf = true) :
    Calls Tryz.prog 28 #[lptr lb, .int .i64 who] W fun e W' => e = .returned (.int .i64 (ofL L who).length) ∧ Lies w0 W' l := by
  obtain ⟨S, h1, _⟩ := h.get i _ hi
  exact (ulen_any who W h1 hw).mono fun _ W' ⟨he, hf⟩ => ⟨he, hf ▸ h⟩
/-- What taking back leaves of the rows. -/
def backM (M : List MTab) (L : List (Int × Ent)) (who : Int) : List MTab := match (ofL L who).getLast? with
  | some x => undoE M x
  | none => M
theorem st_back (h : Lies w0 W l) {lb rb : Nat} {most : Int} {L : List (Int × Ent)} {M : List MTab} (i j : Nat) (hi : l[i]? = some (logT lb most L)) (hj : l[j]? = some (rowsT rb M)) (hij : i ≠ j) (who : Int) (hg : Good M) (hw : (Lit.int .i64 who).wf = true) (hl : L.length ≤ 100000) :
    Calls Tryz.prog 31 #[lptr lb, .int .i64 who, rptr rb] W fun e W' => e = .returned (.bool (!(ofL L who).isEmpty)) ∧ Lies w0 W' ((l.set i (logT lb most (backL L who))).set j (rowsT rb (backM M L who))) := by
  obtain ⟨S, T, h1, h2, h3, h4⟩ := h.get2 i j _ _ hi hj hij
  refine (uback_any who W h1 h2 h3 hg hw hl).mono fun _ W' hb => ?_
  rcases hb with ⟨hn, he, hf⟩ | ⟨ds, x, hn, he, hL, ⟨T', hr, hT⟩, hf⟩
  · refine ⟨by rw [hn]; exact he, ?_⟩
    rw [back_same hn]
    unfold backM
    rw [hn]
    exact h4 W' S T _ _ (LogAt.fr0 h1 hf) (Rws.fr0 h2 hf) (fun k hk => .inl hk) (fun k hk => .inl hk) h3 hf.of_nil
  · refine ⟨by rw [hn, he]; cases ds <;> rfl, ?_⟩
    unfold backM
    rw [hn, List.getLast?_concat]
    have hlt := LogAt.lt h1
    exact h4 W' S T' _ _ hL hr (fun k hk => .inl hk) hT (fun k hk hk2 => by
      rcases hT k hk2 with q | q
      · exact h3 k hk q
      · have := hlt k hk; omega) hf
theorem st_clean (h : Lies w0 W l) {lb rb : Nat} {most : Int} {L : List (Int × Ent)} {M : List MTab} {N : Nat} (i j : Nat) (hi : l[i]? = some (logT lb most L)) (hj : l[j]? = some (rowsT rb M)) (hg : Good M) (hf : Few N M) (hl : N + L.length ≤ 100000) (hwf : ∀ p ∈ L, (Lit.int .i64 p.1).wf = true) :
    Calls Tryz.prog 30 #[lptr lb, rptr rb] W (StNew w0 l fun b => rowsT b (cleanM M L)) := by
  obtain ⟨S, h1, _⟩ := h.get i _ hi
  obtain ⟨T, h3, _⟩ := h.get j _ hj
  exact (uclean_any W h1 h3 hg hf hl hwf).mono fun _ _ ⟨b, S', he, hr, hS, hf⟩ => ⟨b, he, h.add (rowsT b (cleanM M L)) (S := S') hr hS hf⟩
end
end Go.Proofs.YtgpekgnhbccnoaaGreat
namespace Go.Proofs.YtgpekgnhbccnoaaGreat
open Go Go.RowKit

section
variable {w0 W : World} {l : List Thing}
theorem GetRet.fr {T : MTab} {k : Int} {w w' : World} {e : Ending} (h : GetRet T k w e w') : Fr w w' Nil := by
  rcases h with ⟨_, _, _, _, _, h⟩ | ⟨_, _, h⟩
  · exact h.2.2
  · exact h
theorem st_get (h : Lies w0 W l) {rb : Nat} {M : List MTab} (i : Nat) (hi : l[i]? = some (rowsT rb M)) (t k : Int) (hg : Good M) :
    Calls Tryz.prog 94 #[rptr rb, .int .i64 t, .int .i64 k] W fun e W' => GetRet (mtab M t) k W e W' ∧ Lies w0 W' l := by
  obtain ⟨S, h1, _⟩ := h.get i _ hi
  exact (api_get t k h1 hg).mono fun _ W' hr => ⟨hr, h.fr0 hr.fr⟩
theorem st_set (h : Lies w0 W l) {rb : Nat} {M : List MTab} (i : Nat) (hi : l[i]? = some (rowsT rb M)) (t k c x : Int) (hg : Good M) :
    Calls Tryz.prog 95 #[rptr rb, .int .i64 t, .int .i64 k, .int .i64 c, .int .i64 x] W fun e W' => e = .returned (.tuple #[.bool (mset M t k c x).2.1, .int .i64 (mset M t k c x).2.2]) ∧ Lies w0 W' (l.set i (rowsT rb (mset M t k c x).1)) := by
  obtain ⟨S, h1, _, h2⟩ := h.get i _ hi
  refine (api_set t k c x h1 hg).mono fun _ W' ⟨he, S', a, b, c⟩ => ⟨he, h2 W' S' _ a b c⟩
theorem st_cols (h : Lies w0 W l) {rb : Nat} {M : List MTab} (i : Nat) (hi : l[i]? = some (rowsT rb M)) (t : Int) (hg : Good M) :
    Calls Tryz.prog 91 #[rptr rb, .int .i64 t] W fun e W' => e = .returned (.int .i64 (mtab M t).1) ∧ Lies w0 W' l := by
  obtain ⟨S, h1, _⟩ := h.get i _ hi
  exact (api_cols t h1 hg).mono fun _ W' ⟨he, hf⟩ => ⟨he, h.fr0 hf⟩
theorem st_tabs (h : Lies w0 W l) {rb : Nat} {M : List MTab} (i : Nat) (hi : l[i]? = some (rowsT rb M)) (hg : Good M) :
    Calls Tryz.prog 92 #[rptr rb] W fun e W' => e = .returned (.int .i64 M.length) ∧ W = W' := by
  obtain ⟨S, h1, _⟩ := h.get i _ hi
  exact api_tables h1 hg
end
end Go.Proofs.YtgpekgnhbccnoaaGreat
