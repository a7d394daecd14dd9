/-
  A row is appended to rows of rows.
  No condition but sizes.
-/
import Derived.Test.YtkeiphmhckkniaaWtKit
namespace Go.Proofs.Ytkeiphmhckkniaa
open Go Go.RowKit

theorem Try.sltRows : SlT Try.prog 22 27 1 24 := SlT.mk Try.underlying22 (z := .slice none 0 0) (by kernel_rfl) rfl (by decide) (by decide)
theorem Lies.gnil {w0 W : World} {l : List Thing} (h : Lies w0 W l) : Lies w0 W (l ++ [gT (.slice none 0 0) []]) :=
  h.add (gT (.slice none 0 0) []) (S := fun _ => False) ⟨[], World.ownsRow_nil _ _ _ _, ⟨rfl, fun i xs hi => by simp at hi, fun i j u v k _ hu => by simp at hu⟩, fun k => ⟨fun h => h.elim, fun h => by rcases h with h | ⟨i, u, hu, _⟩ <;> simp [Value.ownBlock] at *⟩⟩ (fun k hk => hk.elim) (Fr.refl _ _)
theorem wp_gsnoc {w0 W : World} {l : List Thing} {o : Oper} {a : Act} {K : Act → World → Prop} {Q : Exit → Act → World → Prop} (s x : Operand) (ho : o.op = .call { callee := .builtin .append, args := #[s, x], argTypes := #[22, 22] })
    (h : Lies w0 W l) {v u : Value} {P : List (List Int)} {xs : List Int} {sb : Nat} (hs : a.eval s = v) (hx : a.eval x = .slice (some ⟨sb, 0, none⟩) 1 1) (i j m : Nat) (hij : i < j) (hi : l[i]? = some (gT v P)) (hj : l[j]? = some (owT u xs)) (hm : l[m]? = some (bkT sb 27 [u])) (hl : P.length ≤ 100000)
    (hK : ∀ ad cap W', Lies w0 W' ((l.take j).set i (gT (.slice ad (P.length + 1) cap) (P ++ [xs]))) → K (a.put o.dst (.slice ad (P.length + 1) cap)) W') : o.wp Try.prog a W K Q := by
  have hb := h.bk m hm
  have hsl : SlAt W 1 (.slice (some ⟨sb, 0, none⟩) 1 1) 1 [u] := by
    refine ⟨rfl, .inr ⟨⟨sb, 0, none⟩, 1, rfl, fun k u hu => ?_⟩⟩
    rw [Addr.add_lit, Nat.zero_add, hb.cell k]
    exact hu
  obtain ⟨S, T, ⟨vs, h1, h2, h3⟩, ⟨h4, h5⟩, h6, h7⟩ := h.merge i j _ _ hij hi hj
  obtain ⟨ua, uc, hue⟩ := h4.shape
  refine wp_app W s x _ ho Try.sltRows v hs h1 _ hx hsl (fun y hy => by rw [List.mem_singleton.1 hy, hue]; rfl) (by omega) fun g cap W' k1 k2 k3 => hK g cap W' ?_
  have hf : Fr W W' (fun k => v.ownBlock = some k) := (Fr.refl W _).grown k2 fun k hk _ => hk
  have hty : ∀ k, v.ownBlock = some k → ∃ cur, W.heap[k]? = some (.cells cur 27 (0, 0)) := fun k hk => by
    rcases h1.2 with ⟨e, _⟩ | ⟨g, c, cur, e, _, hg, _⟩
    · rw [e] at hk; cases hk
    · rw [e] at hk; cases hk; exact ⟨cur, hg⟩
  have hvS : ∀ k, v.ownBlock = some k → S k := fun k hk => (h3 k).2 (.inl hk)
  have hrowS : ∀ (q : Nat) (y : Value) (k : Nat), vs[q]? = some y → y.ownBlock = some k → S k := fun q y k hy hk => (h3 k).2 (.inr ⟨q, y, hy, hk⟩)
  refine h7 W' (fun k => (Value.slice g (P.length + 1) cap).ownBlock = some k ∨ ∃ (q : Nat) (y : Value), (vs ++ [u])[q]? = some y ∧ y.ownBlock = some k) _ ⟨vs ++ [u], by rw [List.length_append, List.length_singleton]; exact k1, ?_, fun _ => Iff.rfl⟩ ?_ (hf.mono fun k _ hk => .inl (hvS k hk))
  · refine h2.snoc hf (fun q y k hy hk e => ?_) (h4.fr hf fun k hk e => h6 k (hvS k e) ((h5 k).2 hk)) (fun q y k hy hk e => h6 k (hrowS q y k hy hk) ((h5 k).2 e))
    obtain ⟨xs3, _, ho3⟩ := h2.row hy
    obtain ⟨c1, e1⟩ := rowTy ho3 hk
    obtain ⟨c2, e2⟩ := hty k e
    rw [e1] at e2; simp at e2
  · rintro k (hk | ⟨q, y, hy, hk⟩)
    · rcases k3 with k3 | k3
      · rw [k3] at hk; exact .inl (hvS k hk)
      · rw [k3] at hk; cases hk; exact .inr (.inr (Nat.le_refl _))
    · rcases Nat.lt_or_ge q vs.length with hq | hq
      · rw [List.getElem?_append_left hq] at hy
        exact .inl (hrowS q y k hy hk)
      · rw [List.getElem?_append_right hq] at hy
        have hq2 := (List.getElem?_eq_some_iff.1 hy).1
        simp at hq2
        have hq3 : q - vs.length = 0 := by omega
        rw [hq3] at hy
        simp at hy
        subst hy
        exact .inr (.inl ((h5 k).2 hk))
/-- Rows of rows, the rows' values being known. -/
def gvT (v : Value) (vs : List Value) (G : List (List Int)) : Thing where
  At w S := w.ownsRow 0 27 1 v G.length vs ∧ RowsIn w vs G ∧ ∀ k, S k ↔ (v.ownBlock = some k ∨ ∃ (i : Nat) (u : Value), vs[i]? = some u ∧ u.ownBlock = some k)
  fr h hf hd := ⟨hf.own h.1 fun k hk => hd k ((h.2.2 k).2 (.inl hk)), h.2.1.fr hf fun i u k hu hk => hd k ((h.2.2 k).2 (.inr ⟨i, u, hu, hk⟩)), h.2.2⟩
  lt h k hk := (gT v G).lt ⟨vs, h⟩ k hk
theorem cells_gv (v : Value) (vs : List Value) (G : List (List Int)) : CellsT (gvT v vs G) := fun w S h k hk => cells_g v G w S ⟨vs, h⟩ k hk
theorem Lies.gfix {w0 W : World} {l : List Thing} {v : Value} {G : List (List Int)} (h : Lies w0 W l) (i : Nat) (hi : l[i]? = some (gT v G)) : ∃ vs, Lies w0 W (l.set i (gvT v vs G)) := by
  obtain ⟨S, ⟨vs, h1⟩, _, h2⟩ := h.get i _ hi
  exact ⟨vs, h2 W S (gvT v vs G) h1 (fun k hk => .inl hk) (Fr.refl _ _)⟩
theorem Lies.gvcell {w0 W : World} {l : List Thing} {b n cap : Nat} {vs : List Value} {G : List (List Int)} (h : Lies w0 W l) (i : Nat) (hi : l[i]? = some (gvT (.slice (some ⟨b, 0, none⟩) n cap) vs G)) (k : Nat) (xs : List Int) (hk : G[k]? = some xs) :
    ∃ a c, vs[k]? = some (.slice a xs.length c) ∧ W.cell? ⟨b, k, none⟩ = some (.slice a xs.length c) ∧ OwnInts W 3 (.slice a xs.length c) xs := by
  obtain ⟨S, ⟨h1, h2, _⟩, _⟩ := h.get i _ hi
  obtain ⟨u, hu, hx⟩ := h2.2.1 k xs hk
  obtain ⟨a, c, rfl⟩ := hx.shape
  have hn : G.length = n := by rcases h1.2 with ⟨e, _⟩ | ⟨_, _, _, e, _⟩ <;> simp at e; exact e.2.1.symm
  have hkl := (List.getElem?_eq_some_iff.1 hk).1
  rw [hn] at h1
  exact ⟨a, c, hu, by rw [World.ownsRow.cellAt h1 k (by omega)]; exact hu, hx⟩
/-- slices.BinarySearch of a rising row. -/
theorem search_int (v : Value) (xs : List Int) (x : Int) (w : World) (h : OwnInts w 3 v xs) (hs : xs.Pairwise (· < ·)) (hl : xs.length ≤ 1000000) :
    Calls Try.prog 35 #[v, .int .i64 x] w fun e w' => (∃ n : Nat, e = .returned (.tuple #[.int .i64 (n : Int), .bool (xs.contains x)])) ∧ Fr w w' Nil := by
  rcases Nat.eq_zero_or_pos xs.length with h0 | h0
  · have hx := List.eq_nil_of_length_eq_zero h0
    subst hx
    obtain ⟨a, c, rfl⟩ := h.shape
    simp only [List.length_nil]
    clear h
    go_enter Try.func35, Try.ntmps35
    clear hs hl h0
    go_wp2_with fail
    go_loopw [7, 8] (fun vi vj wr => vi = .int .i64 0 ∧ vj = .int .i64 0 ∧ wr = w) (fun _ _ _ => 0)
    case atStart => exact ⟨rfl, rfl, rfl⟩
    case round =>
      obtain ⟨rfl, rfl, rfl⟩ := hrel
      go_wp2_with fail
      go_ret2
      exact ⟨⟨0, rfl⟩, Fr.refl _ _⟩
  · obtain ⟨b, c, rfl, hc⟩ := h.form h0
    refine (AnyG.slices_BinarySearch_int Try.laysSearchInt b 0 xs.length c xs x w (Nat.le_refl _) (by omega) (fun j hj => by rw [Nat.zero_add]; exact h.cell rfl j hj) (by rw [List.take_length]; exact hs.imp fun h => by omega)).mono ?_
    rintro e w' ⟨rfl, q, rfl⟩
    rw [List.take_length]
    exact ⟨⟨_, rfl⟩, (Fr.refl w Nil).drewN q⟩
end Go.Proofs.Ytkeiphmhckkniaa
