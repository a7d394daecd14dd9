/-
  A table of locks as it lies in memory.
  No condition.
-/
import Derived.Test.YtokeciekncincabGreatPkC3
import Derived.Test.YtokeciekncincabGreatPkC4
import Derived.Test.YtokeciekncincabGreatPkC1
namespace Go.Proofs.YtokeciekncincabGreat
open Go Go.RowKit Go.Maps

abbrev ikey : Int → Lit := fun a => .int .i64 a
theorem Tryz.keyI64 : Keyed Tryz.prog 2 := int_keyed Tryz.underlying2
theorem keyW {who : Int} (h : (Lit.int .i64 who).wf = true) : keyOf Tryz.prog 2 (.int .i64 who) = some (ikey who) := keyOf_int_mk Tryz.underlying2 h
abbrev modV (m : Int) : Value := .int .u8 m
abbrev hold2 (p : Int × Int) : List Value := [.int .i64 p.1, .int .u8 p.2]
theorem hold2_one (l : List (Int × Int)) : ∀ u ∈ l.flatMap hold2, u.oneCell' = true := by
  intro u hu
  obtain ⟨p, _, hp⟩ := List.mem_flatMap.1 hu
  simp only [List.mem_cons, List.not_mem_nil, or_false] at hp
  rcases hp with rfl | rfl <;> rfl
theorem row_ty {w : World} {e : TypeId} {n size : Nat} {v : Value} {cs : List Value} (h : w.ownsRow 0 e size v n cs) {k : Nat} (hk : v.ownBlock = some k) : ∃ cur, w.heap[k]? = some (.cells cur e (0, 0)) := by
  rcases h.2 with ⟨rfl, _⟩ | ⟨g, cap, cur, rfl, _, hg, _⟩
  · simp [Value.ownBlock] at hk
  · simp [Value.ownBlock] at hk; subst hk; exact ⟨cur, hg⟩
/-- A row of holds of its own. -/
def OwnH (w : World) (v : Value) (l : List (Int × Int)) : Prop := w.ownsRow 0 67 2 v l.length (l.flatMap hold2)
theorem OwnH.fr {w w' : World} {v : Value} {l : List (Int × Int)} {S : Nat → Prop} (h : OwnH w v l) (hf : Fr w w' S) (hv : ∀ k, v.ownBlock = some k → ¬ S k) : OwnH w' v l := hf.own h hv
theorem OwnH.lt {w : World} {v : Value} {l : List (Int × Int)} (h : OwnH w v l) {k : Nat} (hk : v.ownBlock = some k) : k < w.heap.size := (World.ownsRow.lt h k hk).2
theorem OwnH.nil (w : World) : OwnH w (.slice none 0 0) [] := World.ownsRow_nil _ _ _ _
theorem OwnH.shape {w : World} {v : Value} {l : List (Int × Int)} (h : OwnH w v l) : ∃ a cap, v = .slice a l.length cap := by
  rcases h.2 with ⟨rfl, hn⟩ | ⟨g, cap, cur, rfl, rest⟩
  · exact ⟨none, 0, by rw [hn]⟩
  · exact ⟨_, cap, rfl⟩
theorem OwnH.form {w : World} {v : Value} {l : List (Int × Int)} (h : OwnH w v l) (hn : 0 < l.length) : ∃ b cap, v = .slice (some ⟨b, 0, none⟩) l.length cap ∧ l.length ≤ cap ∧
    ∀ i p, l[i]? = some p → w.cell? ⟨b, i * 2, none⟩ = some (.int .i64 p.1) ∧ w.cell? ⟨b, i * 2 + 1, none⟩ = some (.int .u8 p.2) := by
  rcases h.2 with ⟨_, h0⟩ | ⟨g, cap, cur, rfl, h1, h2, hc, h3⟩
  · omega
  · refine ⟨g, cap, rfl, hc, fun i p hp => ?_⟩
    obtain ⟨b, off, cap', hv, hcell⟩ := flat_form (n := 2) (f := hold2) (fun _ => rfl) (by decide) (SlAt.of_own h).1 hn
    cases hv
    have p0 := hcell i p hp 0 _ rfl
    have p1 := hcell i p hp 1 _ rfl
    simp only [Nat.add_zero, Nat.zero_add] at p0 p1
    exact ⟨p0, p1⟩
theorem holdT : SlT Tryz.prog 48 67 2 16 := SlT.mk (z := .agg #[.int .i64 0, .int .u8 0]) Tryz.underlying48 (by kernel_rfl) rfl (by decide) (by decide)

/-! ### one spot -/
structure GX where
  xb : Nat
  hb : Nat
  uv : Value
  rv : Value
def GX.ptr (g : GX) : Value := .pointer (some ⟨g.xb, 0, none⟩)
/-- Its blocks. -/
def GX.own (g : GX) (k : Nat) : Prop := k = g.xb ∨ k = g.hb ∨ g.uv.ownBlock = some k ∨ g.rv.ownBlock = some k
structure XAt (w : World) (g : GX) (Hs U R : List (Int × Int)) : Prop where
  box : Bk w g.xb 74 [.map (some g.hb), g.uv, g.rv]
  holds : MapAt Tryz.prog 2 ikey modV w g.hb Hs
  up : OwnH w g.uv U
  rest : OwnH w g.rv R
  far : ∀ k, g.uv.ownBlock = some k → g.rv.ownBlock ≠ some k
theorem bk_not_map {w : World} {b : Nat} {e : TypeId} {cs : List Value} {κ α : Type} {P : Program} {t : TypeId} {key : κ → Lit} {enc : α → Value} {M : List (κ × α)} (h : Bk w b e cs) (hm : MapAt P t key enc w b M) : False := by
  obtain ⟨D, ⟨es, ck, h1, _⟩, _⟩ := hm
  unfold Bk at h
  rw [h1] at h; cases h
theorem row_not_map {w : World} {b : Nat} {e : TypeId} {n size : Nat} {v : Value} {cs : List Value} {κ α : Type} {P : Program} {t : TypeId} {key : κ → Lit} {enc : α → Value} {M : List (κ × α)} (h : w.ownsRow 0 e size v n cs) (hb : v.ownBlock = some b) (hm : MapAt P t key enc w b M) : False := by
  obtain ⟨c, hc⟩ := row_ty h hb
  obtain ⟨D, ⟨es, ck, h1, _⟩, _⟩ := hm
  rw [h1] at hc; cases hc
theorem row_not_bk {w : World} {b : Nat} {e e' : TypeId} {n size : Nat} {v : Value} {cs cs' : List Value} (h : w.ownsRow 0 e size v n cs) (hb : v.ownBlock = some b) (hm : Bk w b e' cs') (hne : e ≠ e') : False := by
  obtain ⟨c, hc⟩ := row_ty h hb
  unfold Bk at hm
  rw [hm] at hc; cases hc; exact hne rfl
theorem bk_not_bk {w : World} {b : Nat} {e e' : TypeId} {cs cs' : List Value} (h : Bk w b e cs) (hm : Bk w b e' cs') (hne : e ≠ e') : False := by
  unfold Bk at h hm
  rw [h] at hm; cases hm; exact hne rfl
section
variable {w w' : World} {g : GX} {Hs U R : List (Int × Int)} {S : Nat → Prop}
theorem XAt.fr (h : XAt w g Hs U R) (hf : Fr w w' S) (hd : ∀ k, g.own k → ¬ S k) : XAt w' g Hs U R :=
  ⟨h.box.fr hf (hd _ (.inl rfl)), h.holds.fr hf (hd _ (.inr (.inl rfl))), h.up.fr hf fun k hk => hd k (.inr (.inr (.inl hk))), h.rest.fr hf fun k hk => hd k (.inr (.inr (.inr hk))), h.far⟩
theorem XAt.fr0 (h : XAt w g Hs U R) (hf : Fr w w' Nil) : XAt w' g Hs U R := h.fr hf fun _ _ h => h
theorem XAt.lt (h : XAt w g Hs U R) : ∀ k, g.own k → k < w.heap.size := by
  rintro k (rfl | rfl | hk | hk)
  · exact h.box.lt
  · exact h.holds.lt
  · exact h.up.lt hk
  · exact h.rest.lt hk
theorem XAt.xh (h : XAt w g Hs U R) : g.xb ≠ g.hb := fun e => bk_not_map h.box (by rw [e]; exact h.holds)
theorem XAt.ux (h : XAt w g Hs U R) : g.uv.ownBlock ≠ some g.xb := fun e => row_not_bk h.up e h.box (by decide)
theorem XAt.rx (h : XAt w g Hs U R) : g.rv.ownBlock ≠ some g.xb := fun e => row_not_bk h.rest e h.box (by decide)
theorem XAt.uh (h : XAt w g Hs U R) : g.uv.ownBlock ≠ some g.hb := fun e => row_not_map h.up e h.holds
theorem XAt.rh (h : XAt w g Hs U R) : g.rv.ownBlock ≠ some g.hb := fun e => row_not_map h.rest e h.holds
end

/-! ### the table -/
structure LkG (w : World) (lb sb wb : Nat) (most : Int) (h u r : Spot → List (Int × Int)) (V : List (Int × Spot)) (G : List (Spot × GX)) (S : Nat → Prop) : Prop where
  root : Bk w lb 59 [.int .i64 most, .map (some sb), .map (some wb)]
  spots : MapAt Tryz.prog 30 skey GX.ptr w sb G
  waits : MapAt Tryz.prog 2 ikey spV w wb V
  sw : sb ≠ wb
  at_ : ∀ p ∈ G, XAt w p.2 (h p.1) (u p.1) (r p.1)
  apart : ∀ p ∈ G, ∀ q ∈ G, p.1 ≠ q.1 → ∀ k, p.2.own k → ¬ q.2.own k
  nol : ∀ p ∈ G, ∀ k, p.2.own k → k ≠ lb ∧ k ≠ sb ∧ k ≠ wb
  gone : ∀ s, (∀ p ∈ G, p.1 ≠ s) → h s = [] ∧ u s = [] ∧ r s = []
  wf : ∀ p ∈ G, SWf p.1
  inL : S lb
  inS : S sb
  inW : S wb
  inX : ∀ p ∈ G, ∀ k, p.2.own k → S k
  lt : ∀ k, S k → k < w.heap.size
section
variable {w w' : World} {lb sb wb : Nat} {most : Int} {h u r : Spot → List (Int × Int)} {V : List (Int × Spot)} {G : List (Spot × GX)} {S : Nat → Prop}
theorem LkG.fr {T : Nat → Prop} (H : LkG w lb sb wb most h u r V G S) (hf : Fr w w' T) (hd : ∀ k, S k → ¬ T k) : LkG w' lb sb wb most h u r V G S :=
  ⟨H.root.fr hf (hd _ H.inL), H.spots.fr hf (hd _ H.inS), H.waits.fr hf (hd _ H.inW), H.sw, fun p hp => (H.at_ p hp).fr hf fun k hk => hd k (H.inX p hp k hk), H.apart, H.nol, H.gone, H.wf, H.inL, H.inS, H.inW, H.inX, fun k hk => Nat.lt_of_lt_of_le (H.lt k hk) hf.size⟩
theorem LkG.fr0 (H : LkG w lb sb wb most h u r V G S) (hf : Fr w w' Nil) : LkG w' lb sb wb most h u r V G S := H.fr hf fun _ _ h => h
theorem LkG.ls (H : LkG w lb sb wb most h u r V G S) : lb ≠ sb := fun e => bk_not_map H.root (by rw [e]; exact H.spots)
theorem LkG.lw (H : LkG w lb sb wb most h u r V G S) : lb ≠ wb := fun e => bk_not_map H.root (by rw [e]; exact H.waits)
/-- One spot of the map has turned, with its blocks alone. -/
theorem LkG.turn {h' u' r' : Spot → List (Int × Int)} {g g' : GX} {s : Spot} (H : LkG w lb sb wb most h u r V G S) (hs : (s, g) ∈ G) (hg : g'.xb = g.xb) (hx : XAt w' g' (h' s) (u' s) (r' s)) (hf : Fr w w' g.own)
    (hown : ∀ k, g'.own k → g.own k ∨ w.heap.size ≤ k) (ho : ∀ s', s' ≠ s → h' s' = h s' ∧ u' s' = u s' ∧ r' s' = r s') :
    LkG w' lb sb wb most h' u' r' V (G.map fun p => if p.1 = s then (s, g') else p) (fun k => S k ∨ g'.own k) := by
  have hptr : (G.map fun p => if p.1 = s then (s, g') else p).map (fun p => (skey p.1, DataW.held p.2.ptr)) = G.map (fun p => (skey p.1, (DataW.held p.2.ptr : DataW Value))) := by
    rw [List.map_map]
    refine List.map_congr_left fun p hp => ?_
    show (skey (if p.1 = s then (s, g') else p).1, DataW.held (if p.1 = s then (s, g') else p).2.ptr) = _
    split
    · rename_i e
      have : p = (s, g) := by
        have hn := H.spots.nodup
        have h1 := getV_mem (z := g) hn hs
        have h2 := getV_mem (x := p.1) (v := p.2) (z := g) hn hp
        rw [e] at h2
        rw [h1] at h2
        obtain ⟨p1, p2⟩ := p
        simp only at e h2
        rw [e, h2]
      subst this
      show (skey s, DataW.held g'.ptr) = (skey s, DataW.held g.ptr)
      unfold GX.ptr
      rw [hg]
    · rfl
  have hkeys : (G.map fun p => if p.1 = s then (s, g') else p).map Prod.fst = G.map Prod.fst := by
    rw [List.map_map]
    refine List.map_congr_left fun p _ => ?_
    show (if p.1 = s then (s, g') else p).1 = p.1
    split
    · rename_i e; exact e.symm
    · rfl
  have hmem : ∀ p ∈ (G.map fun p => if p.1 = s then (s, g') else p), (p = (s, g')) ∨ (p ∈ G ∧ p.1 ≠ s) := by
    intro p hp
    obtain ⟨q, hq, rfl⟩ := List.mem_map.1 hp
    split
    · exact .inl rfl
    · rename_i e; exact .inr ⟨hq, e⟩
  have hsb := (H.nol _ hs)
  have hlt := H.lt
  refine ⟨H.root.fr hf fun k => (hsb _ k).1 rfl, ?_, H.waits.fr hf fun k => (hsb _ k).2.2 rfl, H.sw, fun p hp => ?_, fun p hp q hq hpq k hk hk2 => ?_, fun p hp k hk => ?_, fun s' hs' => ?_, fun p hp => ?_, .inl H.inL, .inl H.inS, .inl H.inW, fun p hp k hk => ?_, fun k hk => ?_⟩
  · obtain ⟨D, h1, h2⟩ := H.spots.fr hf fun k => (hsb _ k).2.1 rfl
    obtain ⟨E, rfl, h3, h4⟩ := h2
    have h5 : MapIs skey GX.ptr (.map E) (G.map fun p => if p.1 = s then (s, g') else p) := ⟨E, rfl, by rw [hptr]; exact h3, by rw [hkeys]; exact h4⟩
    exact MapAt.mk h1 h5
  · rcases hmem p hp with rfl | ⟨hp, hne⟩
    · exact hx
    · obtain ⟨e1, e2, e3⟩ := ho p.1 hne
      have := (H.at_ p hp).fr hf fun k hk => H.apart p hp _ hs hne k hk
      rw [e1, e2, e3]; exact this
  · have key : ∀ q ∈ G, q.1 ≠ s → ∀ k, q.2.own k → ¬ g'.own k := fun q hq hne k h1 h2 => by
      rcases hown k h2 with h3 | h3
      · exact H.apart q hq _ hs hne k h1 h3
      · have := (H.at_ q hq).lt k h1; omega
    rcases hmem p hp with rfl | ⟨hp, hne⟩ <;> rcases hmem q hq with rfl | ⟨hq, hne2⟩
    · exact hpq rfl
    · exact key q hq hne2 k hk2 hk
    · exact key p hp hne k hk hk2
    · exact H.apart p hp q hq hpq k hk hk2
  · rcases hmem p hp with rfl | ⟨hp, hne⟩
    · rcases hown k hk with h3 | h3
      · exact hsb k h3
      · have := hlt _ H.inL; have := hlt _ H.inS; have := hlt _ H.inW; omega
    · exact H.nol p hp k hk
  · have hne : s' ≠ s := fun e => by
      refine hs' (s, g') ?_ e.symm
      exact List.mem_map.2 ⟨(s, g), hs, if_pos rfl⟩
    obtain ⟨e1, e2, e3⟩ := ho s' hne
    rw [e1, e2, e3]
    refine H.gone s' fun p hp e => hs' p ?_ e
    exact List.mem_map.2 ⟨p, hp, if_neg fun e2 => hne (e.symm.trans e2)⟩
  · rcases hmem p hp with rfl | ⟨hp, _⟩
    · exact H.wf (s, g) hs
    · exact H.wf p hp
  · rcases hmem p hp with rfl | ⟨hp, _⟩
    · exact .inr hk
    · exact .inl (H.inX p hp k hk)
  · rcases hk with hk | hk
    · exact Nat.lt_of_lt_of_le (H.lt k hk) hf.size
    · exact hx.lt k hk
/-- Whom one waits for has turned. -/
theorem LkG.waitsTo {V' : List (Int × Spot)} (H : LkG w lb sb wb most h u r V G S) (hm : MapAt Tryz.prog 2 ikey spV w' wb V') (hf : Fr w w' (fun k => k = wb)) : LkG w' lb sb wb most h u r V' G S :=
  ⟨H.root.fr hf H.lw, H.spots.fr hf H.sw, hm, H.sw, fun p hp => (H.at_ p hp).fr hf fun k hk => (H.nol p hp k hk).2.2, H.apart, H.nol, H.gone, H.wf, H.inL, H.inS, H.inW, H.inX, fun k hk => Nat.lt_of_lt_of_le (H.lt k hk) hf.size⟩
theorem LkG.more {T : Nat → Prop} (H : LkG w lb sb wb most h u r V G S) (hs : ∀ k, S k → T k) (ht : ∀ k, T k → k < w.heap.size) : LkG w lb sb wb most h u r V G T :=
  ⟨H.root, H.spots, H.waits, H.sw, H.at_, H.apart, H.nol, H.gone, H.wf, hs _ H.inL, hs _ H.inS, hs _ H.inW, fun p hp k hk => hs k (H.inX p hp k hk), ht⟩
/-- A spot is taken out of the map, of which there is nothing more. -/
theorem LkG.drop {s : Spot} (H : LkG w lb sb wb most h u r V G S) (hm : MapAt Tryz.prog 30 skey GX.ptr w' sb (G.filter fun p => !decide (p.1 = s))) (hf : Fr w w' (fun k => k = sb)) (h0 : h s = [] ∧ u s = [] ∧ r s = []) :
    LkG w' lb sb wb most h u r V (G.filter fun p => !decide (p.1 = s)) S := by
  have hmem : ∀ p ∈ G.filter (fun p => !decide (p.1 = s)), p ∈ G ∧ p.1 ≠ s := fun p hp => by
    obtain ⟨h1, h2⟩ := List.mem_filter.1 hp
    exact ⟨h1, by simpa using h2⟩
  refine ⟨H.root.fr hf H.ls, hm, H.waits.fr hf fun e => H.sw e.symm, H.sw, fun p hp => (H.at_ p (hmem p hp).1).fr hf fun k hk => (H.nol p (hmem p hp).1 k hk).2.1, fun p hp q hq => H.apart p (hmem p hp).1 q (hmem q hq).1, fun p hp => H.nol p (hmem p hp).1, fun s' hs' => ?_, fun p hp => H.wf p (hmem p hp).1, H.inL, H.inS, H.inW, fun p hp => H.inX p (hmem p hp).1, fun k hk => Nat.lt_of_lt_of_le (H.lt k hk) hf.size⟩
  by_cases e : s' = s
  · subst e; exact h0
  · refine H.gone s' fun p hp e2 => hs' p (List.mem_filter.2 ⟨hp, ?_⟩) e2
    rw [Bool.not_eq_true', decide_eq_false_iff_not, e2]
    exact e
/-- A new spot is laid, of which there is nothing yet. -/
theorem LkG.lay {s : Spot} {g : GX} (H : LkG w lb sb wb most h u r V G S) (hs : ∀ p ∈ G, p.1 ≠ s) (hw : SWf s) (hm : MapAt Tryz.prog 30 skey GX.ptr w' sb (G ++ [(s, g)])) (hf : Fr w w' (fun k => k = sb)) (hx : XAt w' g [] [] []) (hown : ∀ k, g.own k → w.heap.size ≤ k) :
    LkG w' lb sb wb most h u r V (G ++ [(s, g)]) (fun k => S k ∨ g.own k) := by
  have hlt : ∀ p ∈ G, ∀ k, p.2.own k → ¬ g.own k := fun p hp k h1 h2 => by have := (H.at_ p hp).lt k h1; have := hown k h2; omega
  have hmem : ∀ p ∈ G ++ [(s, g)], p ∈ G ∨ p = (s, g) := fun p hp => by simpa using hp
  obtain ⟨g1, g2, g3⟩ := H.gone s hs
  refine ⟨H.root.fr hf H.ls, hm, H.waits.fr hf fun e => H.sw e.symm, H.sw, fun p hp => ?_, fun p hp q hq hpq k hk hk2 => ?_, fun p hp k hk => ?_, fun s' hs' => ?_, fun p hp => ?_, .inl H.inL, .inl H.inS, .inl H.inW, fun p hp k hk => ?_, fun k hk => ?_⟩
  · rcases hmem p hp with hp | rfl
    · exact (H.at_ p hp).fr hf fun k hk => (H.nol p hp k hk).2.1
    · rw [g1, g2, g3]; exact hx
  · rcases hmem p hp with hp | rfl <;> rcases hmem q hq with hq | rfl
    · exact H.apart p hp q hq hpq k hk hk2
    · exact hlt p hp k hk hk2
    · exact hlt q hq k hk2 hk
    · exact hpq rfl
  · rcases hmem p hp with hp | rfl
    · exact H.nol p hp k hk
    · have := hown k hk
      have := H.lt _ H.inL; have := H.lt _ H.inS; have := H.lt _ H.inW; omega
  · exact H.gone s' fun p hp => hs' p (List.mem_append.2 (.inl hp))
  · rcases hmem p hp with hp | rfl
    · exact H.wf p hp
    · exact hw
  · rcases hmem p hp with hp | rfl
    · exact .inl (H.inX p hp k hk)
    · exact .inr hk
  · rcases hk with hk | hk
    · exact Nat.lt_of_lt_of_le (H.lt k hk) hf.size
    · exact hx.lt k hk
end
end Go.Proofs.YtokeciekncincabGreat
