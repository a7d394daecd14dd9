/-
  What lies in memory while the graph of conflicts is built. No walk.
  No condition.
-/
import Derived.Test.YtegejcmihojhbaaHsAhead
import Derived.Test.YtegejcmihojhbaaHsOf
import Derived.Maps.OwnIn
import Derived.Maps.Views
namespace Go.Proofs.Ytegejcmihojhbaa
open Go Go.RowKit Go.Maps

/-- The map from who to its place. -/
def mapOf (who : List Int) (k : Nat) : DataW Unit := (List.range k).foldl (fun D i => D.put (.int .i64 (who.getD i 0)) (.lit (.int .i64 (i : Int)))) (.map [])
theorem mapOf_succ (who : List Int) (k : Nat) : mapOf who (k + 1) = (mapOf who k).put (.int .i64 (who.getD k 0)) (.lit (.int .i64 (k : Int))) := by
  simp [mapOf, List.range_succ]
theorem mapOf_isMap (who : List Int) (k : Nat) : IsMap (mapOf who k) := by
  induction k with
  | zero => exact ⟨[], rfl⟩
  | succ k ih => rw [mapOf_succ]; exact ih.put _ _
theorem lit_ne {x y : Int} (h : x ≠ y) : Lit.int .i64 x ≠ Lit.int .i64 y := fun e => h (by injection e)
theorem mapOf_has {who : List Int} {k : Nat} (hk : k ≤ who.length) (x : Int) : Maps.has (mapOf who k) (.int .i64 x) = (who.take k).contains x := by
  induction k with
  | zero => rfl
  | succ k ih =>
    have hlt : k < who.length := by omega
    have hg : who.getD k 0 = who[k] := by simp [List.getD_eq_getElem?_getD, hlt]
    rw [mapOf_succ, List.take_succ_eq_append_getElem hlt, hg]
    by_cases e : x = who[k]
    · rw [← e, has_put_same (mapOf_isMap who k) (k := .int .i64 x) trivial]
      simp
    · rw [has_put_other (lit_ne e), ih (by omega)]
      rw [Bool.eq_iff_iff]
      simp only [List.contains_iff_mem, List.mem_append, List.mem_singleton]
      exact ⟨.inl, fun h => h.resolve_right e⟩
theorem mapOf_at {who : List Int} (hn : who.Nodup) {k : Nat} (hk : k ≤ who.length) {x : Int} (hx : x ∈ who.take k) (z : DataW Unit) : (mapOf who k).atKey (.int .i64 x) z = .lit (.int .i64 ((who.idxOf x : Nat) : Int)) := by
  induction k with
  | zero => simp at hx
  | succ k ih =>
    have hlt : k < who.length := by omega
    have hg : who.getD k 0 = who[k] := by simp [List.getD_eq_getElem?_getD, hlt]
    rw [mapOf_succ, hg]
    by_cases e : x = who[k]
    · rw [← e, atKey_put_same (mapOf_isMap who k) (k := .int .i64 x) trivial]
      have : who.idxOf x = k := idxOf_at hn (by rw [List.getElem?_eq_getElem hlt, e])
      rw [this]
    · rw [atKey_put_other (lit_ne e)]
      rw [List.take_succ_eq_append_getElem hlt] at hx
      rcases List.mem_append.1 hx with hx | hx
      · exact ih (by omega) hx
      · simp at hx; exact absurd hx e
theorem lit_inj {x y : Int} (h : (DataW.lit (.int .i64 x) : DataW Unit) = .lit (.int .i64 y)) : x = y := by
  injection h with h
  injection h

/-- Rows of the call's own, apart from each other. -/
def RowsOk (W : World) (B : Nat) (vs : List Value) (G : List (List Int)) : Prop :=
  vs.length = G.length ∧ (∀ (i : Nat) (xs : List Int), G[i]? = some xs → ∃ u, vs[i]? = some u ∧ OwnInts W 3 u xs ∧ NewFrom B u) ∧ ∀ (i j : Nat) (u v : Value), i ≠ j → vs[i]? = some u → vs[j]? = some v → Far u v
theorem own_type {W : World} {e : TypeId} {v : Value} {xs : List Int} (h : OwnInts W e v xs) {k : Nat} (hk : v.ownBlock = some k) : ∃ cur, W.heap[k]? = some (.cells cur e (0, 0)) := by
  rcases h.2 with ⟨rfl, _⟩ | ⟨g, cap, cur, rfl, _, hg, _⟩
  · simp [Value.ownBlock] at hk
  · simp [Value.ownBlock] at hk; subst hk; exact ⟨cur, hg⟩
theorem RowsOk.fr {W W' : World} {S : Nat → Prop} {B : Nat} {vs : List Value} {G : List (List Int)} (h : RowsOk W B vs G) (hf : Fr W W' S) (hr : ∀ k cur, W.heap[k]? = some (.cells cur 3 (0, 0)) → ¬ S k) : RowsOk W' B vs G := by
  refine ⟨h.1, fun i xs hi => ?_, h.2.2⟩
  obtain ⟨u, hu, hx, hn⟩ := h.2.1 i xs hi
  exact ⟨u, hu, hx.fr hf fun k hk => by obtain ⟨cur, hc⟩ := own_type hx hk; exact hr k cur hc, hn⟩
/-- One row turned. -/
theorem RowsOk.set {W W' : World} {S : Nat → Prop} {B i : Nat} {vs : List Value} {G : List (List Int)} {u u' : Value} {xs' : List Int} (h : RowsOk W B vs G) (hi : vs[i]? = some u) (hf : Fr W W' (fun k => u.ownBlock = some k ∨ S k)) (hS : ∀ k cur, W.heap[k]? = some (.cells cur 3 (0, 0)) → ¬ S k)
    (hu : OwnInts W' 3 u' xs') (hn : NewFrom B u') (hb : u'.ownBlock = u.ownBlock ∨ ∀ k, u'.ownBlock = some k → W.heap.size ≤ k) : RowsOk W' B (vs.set i u') (G.set i xs') := by
  have hil : i < vs.length := (List.getElem?_eq_some_iff.1 hi).1
  have hfar : ∀ (j : Nat) (v : Value), j ≠ i → vs[j]? = some v → Far u' v := by
    intro j v hj hv k hk hk2
    rcases hb with hb | hb
    · exact h.2.2 i j u v (fun e => hj e.symm) hi hv k (by rw [← hb, hk]) hk2
    · have h1 := hb k hk
      have hjl := (List.getElem?_eq_some_iff.1 hv).1
      have hjg : j < G.length := by rw [← h.1]; exact hjl
      obtain ⟨v2, hv2, hx, _⟩ := h.2.1 j G[j] (List.getElem?_eq_getElem hjg)
      rw [hv] at hv2; cases hv2
      have := hx.lt k hk2
      omega
  refine ⟨by simp [h.1], fun j xs hj => ?_, fun a b x y hab hx hy => ?_⟩
  · by_cases e : j = i
    · subst e
      rw [List.getElem?_set_self (by rw [← h.1]; exact hil)] at hj
      cases hj
      exact ⟨u', by rw [List.getElem?_set_self hil], hu, hn⟩
    · rw [List.getElem?_set_ne (fun h => e h.symm)] at hj
      obtain ⟨v, hv, hx, hnv⟩ := h.2.1 j xs hj
      refine ⟨v, by rw [List.getElem?_set_ne (fun h => e h.symm)]; exact hv, hx.fr hf ?_, hnv⟩
      rintro k hk (h1 | h1)
      · exact h.2.2 i j u v (fun h => e h.symm) hi hv k h1 hk
      · obtain ⟨cur, hc⟩ := own_type hx hk
        exact hS k cur hc h1
  · by_cases ea : a = i
    · subst ea
      rw [List.getElem?_set_self hil] at hx
      cases hx
      rw [List.getElem?_set_ne (fun h => hab h)] at hy
      exact hfar b y (fun e => hab e.symm) hy
    · rw [List.getElem?_set_ne (fun h => ea h.symm)] at hx
      by_cases eb : b = i
      · subst eb
        rw [List.getElem?_set_self hil] at hy
        cases hy
        exact (hfar a x ea hx).symm
      · rw [List.getElem?_set_ne (fun h => eb h.symm)] at hy
        exact h.2.2 a b x y hab hx hy

/-- All that lies in memory while the pairs come. -/
structure GInv (w : World) (who : List Int) (tv : Value) (mb ab gb gB Bs : Nat) (pre : List Pair) (W : World) : Prop where
  at_ : Bk W ab 63 [.map (some mb)]
  map : W.ownsMap Try.prog 2 (plainElem (H := Unit) Try.prog 3) mb who.length (mapOf who who.length)
  gbox : Bk W gB 26 [.slice (some ⟨gb, 0, none⟩) who.length who.length]
  tbox : Bk W Bs 23 [tv]
  rows : ∃ vs, W.ownsRow 0 28 1 (.slice (some ⟨gb, 0, none⟩) who.length who.length) who.length vs ∧ RowsOk W w.heap.size vs (gAcc who pre)
  fr : Fr w W Nil
/-- Blocks that are not cells may turn. -/
theorem GInv.turn {w : World} {who : List Int} {tv : Value} {mb ab gb gB Bs B : Nat} {pre : List Pair} {W W' : World} {row : Option Nat} (h : GInv w who tv mb ab gb gB Bs pre W) (hg : W.grownBy W' row) (hw : w.heap.size ≤ B) (hmb : mb < B) (hr : ∀ r, row = some r → B ≤ r ∧ ∃ o : Obj, W.heap[r]? = some o ∧ o.isCells = false) : GInv w who tv mb ab gb gB Bs pre W' := by
  have hf : Fr W W' (fun k => row = some k) := (Fr.refl W _).grown hg fun k hk _ => hk
  have hcell : ∀ k c e f, W.heap[k]? = some (.cells c e f) → ¬ (row = some k) := by
    intro k c e f hc hk
    obtain ⟨_, o, ho, hn⟩ := hr k hk
    rw [hc] at ho; cases ho; cases hn
  obtain ⟨vs, h1, h2⟩ := h.rows
  refine ⟨h.at_.fr hf (hcell _ _ _ _ h.at_), h.map.kept hg (fun e => by have := (hr _ e.symm).1; omega), h.gbox.fr hf (hcell _ _ _ _ h.gbox), h.tbox.fr hf (hcell _ _ _ _ h.tbox), ⟨vs, hf.own h1 ?_, h2.fr hf fun k cur hc => hcell k _ _ _ hc⟩, h.fr.grown hg fun k hk hlt => by have := (hr k hk).1; omega⟩
  intro k hk
  rcases h1.2 with ⟨h3, _⟩ | ⟨g, cap, cur, h3, _, hg3, _⟩
  · cases h3
  · cases h3
    simp [Value.ownBlock] at hk
    subst hk
    exact hcell _ _ _ _ hg3
/-- New blocks and blocks of touches alone. -/
theorem GInv.alloc {w : World} {who : List Int} {tv : Value} {mb ab gb gB Bs : Nat} {pre : List Pair} {W : World} (h : GInv w who tv mb ab gb gB Bs pre W) (o : Obj) : GInv w who tv mb ab gb gB Bs pre (W.alloc o) := by
  obtain ⟨vs, h1, h2⟩ := h.rows
  have hf : Fr W (W.alloc o) Nil := (Fr.refl W Nil).alloc o
  exact ⟨h.at_.alloc o, h.map.alloc o, h.gbox.alloc o, h.tbox.alloc o, ⟨vs, World.ownsRow.alloc h1 o, h2.fr hf fun _ _ _ h => h⟩, h.fr.alloc o⟩
/-- A pair that adds nothing. -/
theorem GInv.skip {w : World} {who : List Int} {tv : Value} {mb ab gb gB Bs : Nat} {pre : List Pair} {W : World} {p : Pair} (h : GInv w who tv mb ab gb gB Bs pre W) (hs : gadd who (gAcc who pre) p = gAcc who pre) : GInv w who tv mb ab gb gB Bs (pre ++ [p]) W := by
  refine ⟨h.at_, h.map, h.gbox, h.tbox, ?_, h.fr⟩
  rw [gAcc_snoc, hs]
  exact h.rows
theorem grow_pos {who : List Int} {pre : List Pair} {p : Pair} (h1 : who.contains p.1.who = true) (h2 : who.contains p.2.who = true) (h3 : ((gAcc who pre).getD (posW who p.1.who) []).contains (posW who p.2.who : Int) = false) :
    gAcc who (pre ++ [p]) = (gAcc who pre).set (posW who p.1.who) ((gAcc who pre).getD (posW who p.1.who) [] ++ [(posW who p.2.who : Int)]) := by
  rw [gAcc_snoc]
  unfold gadd
  rw [if_pos (by rw [h1, h2, h3]; rfl)]
theorem skip_pos {who : List Int} {pre : List Pair} {p : Pair} (h : who.contains p.1.who = false ∨ who.contains p.2.who = false ∨ ((gAcc who pre).getD (posW who p.1.who) []).contains (posW who p.2.who : Int) = true) : gadd who (gAcc who pre) p = gAcc who pre := by
  unfold gadd
  rw [if_neg]
  simp only [Bool.and_eq_true, Bool.not_eq_true']
  rintro ⟨⟨h1, h2⟩, h3⟩
  rcases h with h | h | h
  · rw [h1] at h; cases h
  · rw [h2] at h; cases h
  · rw [h3] at h; cases h
theorem gb_type {W : World} {gb n : Nat} {vs : List Value} (h : W.ownsRow 0 28 1 (.slice (some ⟨gb, 0, none⟩) n n) n vs) : ∃ cur, W.heap[gb]? = some (.cells cur 28 (0, 0)) := by
  rcases h.2 with ⟨h1, _⟩ | ⟨g, cap, cur, h1, _, hg, _⟩
  · cases h1
  · cases h1; exact ⟨cur, hg⟩
/-- A pair that adds an edge. -/
theorem GInv.add {w : World} {who : List Int} {tv : Value} {mb ab gb gB Bs B : Nat} {pre : List Pair} {W w2 : World} {p : Pair} {ob : Obj} {u u' : Value} {vs : List Value} (h : GInv w who tv mb ab gb gB Bs pre W) (hgb : w.heap.size ≤ gb)
    (hro : W.ownsRow 0 28 1 (.slice (some ⟨gb, 0, none⟩) who.length who.length) who.length vs) (hrk : RowsOk W w.heap.size vs (gAcc who pre)) (hu : vs[posW who p.1.who]? = some u)
    (hx : OwnInts W 3 u ((gAcc who pre).getD (posW who p.1.who) [])) (hn : NewFrom w.heap.size u)
    (h1 : who.contains p.1.who = true) (h2 : who.contains p.2.who = true) (h3 : ((gAcc who pre).getD (posW who p.1.who) []).contains (posW who p.2.who : Int) = false)
    (ho : w2.ownsRow 0 3 1 u' (((gAcc who pre).getD (posW who p.1.who) []).length + 1) (((gAcc who pre).getD (posW who p.1.who) []).map (Value.int .i64) ++ [.int .i64 (posW who p.2.who : Int)]))
    (hg : (W.drew.alloc ob).grownBy w2 u.ownBlock) (hb : u'.ownBlock = u.ownBlock ∨ u'.ownBlock = some (W.heap.size + 1)) :
    GInv w who tv mb ab gb gB Bs (pre ++ [p]) (w2.setCell ⟨gb, posW who p.1.who, none⟩ u') ∧ Keep w.heap.size Bs W (w2.setCell ⟨gb, posW who p.1.who, none⟩ u') ∧ KeepsFrom B W (w2.setCell ⟨gb, posW who p.1.who, none⟩ u') := by
  have hpos := grow_pos (pre := pre) (p := p) h1 h2 h3
  generalize (gAcc who pre).getD (posW who p.1.who) [] = xs at *
  generalize posW who p.1.who = i at *
  have hf2 : Fr W w2 (fun k => u.ownBlock = some k) := (((Fr.refl W _).drew).alloc ob).grown hg fun k hk _ => hk
  have hgw := gb_type hro
  obtain ⟨curg, hgw⟩ := hgw
  have hug : ∀ k, u.ownBlock = some k → k ≠ gb := by
    intro k hk e
    subst e
    obtain ⟨cur, hc⟩ := own_type hx hk
    rw [hgw] at hc; simp at hc
  have hro2 := hf2.own hro (fun k hk hk2 => by cases hk; exact hug _ hk2 rfl)
  have hst := World.ownsRow.stored hro2 i u'
  have hf3 : Fr W (w2.setCell ⟨gb, i, none⟩ u') (fun k => u.ownBlock = some k ∨ k = gb) := (hf2.mono fun k _ hk => .inl hk).setCell (p := ⟨gb, i, none⟩) (fun _ => .inr rfl) _
  have hou : OwnInts w2 3 u' (xs ++ [(posW who p.2.who : Int)]) := own_snocZ ho
  have hou3 : OwnInts (w2.setCell ⟨gb, i, none⟩ u') 3 u' (xs ++ [(posW who p.2.who : Int)]) := by
    refine ownsRow_setCell_other (a := ⟨gb, i, none⟩) hou (fun e => ?_) u'
    obtain ⟨cur, hc⟩ := own_type hou e
    obtain ⟨cur2, hc2⟩ := gb_type hro2
    rw [hc2] at hc; simp at hc
  have hnu : NewFrom w.heap.size u' := by
    intro k hk
    rcases hb with hb | hb
    · exact hn k (by rw [← hb, hk])
    · rw [hk] at hb; cases hb; have := h.fr.size; omega
  have hcellS : ∀ k o, W.heap[k]? = some o → (u.ownBlock = some k ∨ k = gb) → ∃ c e, o = .cells c e (0, 0) ∧ (e = 3 ∨ e = 28) := by
    rintro k o hk (hs | rfl)
    · obtain ⟨cur, hc⟩ := own_type hx hs
      rw [hk] at hc; cases hc
      exact ⟨cur, _, rfl, .inl rfl⟩
    · rw [hk] at hgw; cases hgw
      exact ⟨curg, _, rfl, .inr rfl⟩
  have hnot : ∀ k c e f, W.heap[k]? = some (.cells c e f) → e ≠ 3 → e ≠ 28 → ¬ (u.ownBlock = some k ∨ k = gb) := by
    intro k c e f hk h1 h2 hs
    obtain ⟨c2, e2, he, h3 | h3⟩ := hcellS k _ hk hs
    · cases he; exact h1 h3
    · cases he; exact h2 h3
  have hmapb : ∀ k, (u.ownBlock = some k ∨ k = gb) → k ≠ mb := by
    rintro k hs rfl
    obtain ⟨es, ck, hh, _⟩ := h.map
    obtain ⟨c, e, he, _⟩ := hcellS _ _ hh hs
    cases he
  refine ⟨⟨h.at_.fr hf3 (hnot _ _ _ _ h.at_ (by decide) (by decide)), ?_, h.gbox.fr hf3 (hnot _ _ _ _ h.gbox (by decide) (by decide)), h.tbox.fr hf3 (hnot _ _ _ _ h.tbox (by decide) (by decide)), ⟨vs.set i u', hst.1, ?_⟩, ?_⟩, ?_, ?_⟩
  · obtain ⟨es, ck, hh, hrest⟩ := h.map
    exact ⟨es, ck, (hf3.block mb (Array.getElem?_eq_some_iff.1 hh).1 fun hs => hmapb mb hs rfl).trans hh, hrest⟩
  · rw [hpos]
    refine hrk.set hu hf3 (fun k cur hc hk => ?_) hou3 hnu (hb.imp id fun hb k hk => ?_)
    · subst hk
      rw [hgw] at hc; simp at hc
    · rw [hk] at hb; cases hb; omega
  · exact h.fr.trans hf3 fun k hk hs => by
      rcases hs with hs | rfl
      · have := hn k hs; omega
      · omega
  · refine Keep.of hf3 fun k hk hs => ?_
    rintro (hp | hp | ⟨c, f, hp⟩)
    · rcases hs with hs | rfl
      · have := hn k hs; omega
      · omega
    · subst hp
      exact hnot _ _ _ _ h.tbox (by decide) (by decide) hs
    · exact hnot _ _ _ _ hp (by decide) (by decide) hs
  · refine ⟨hf3.size, fun k o _ hk ho => ?_⟩
    refine (hf3.block k (Array.getElem?_eq_some_iff.1 hk).1 fun hs => ?_).trans hk
    obtain ⟨c, e, he, _⟩ := hcellS k o hk hs
    subst he; cases ho
/-- The same, with short names. -/
theorem GInv.add' {w : World} {who : List Int} {tv : Value} {mb ab gb gB Bs B i j : Nat} {pre : List Pair} {W w2 : World} {p : Pair} {ob : Obj} {u u' : Value} {vs : List Value} {xs : List Int} (h : GInv w who tv mb ab gb gB Bs pre W) (hgb : w.heap.size ≤ gb)
    (hro : W.ownsRow 0 28 1 (.slice (some ⟨gb, 0, none⟩) who.length who.length) who.length vs) (hrk : RowsOk W w.heap.size vs (gAcc who pre)) (hi : posW who p.1.who = i) (hj : posW who p.2.who = j) (hxs : (gAcc who pre).getD (posW who p.1.who) [] = xs) (hu : vs[i]? = some u)
    (hx : OwnInts W 3 u xs) (hn : NewFrom w.heap.size u)
    (h1 : who.contains p.1.who = true) (h2 : who.contains p.2.who = true) (h3 : xs.contains (j : Int) = false)
    (ho : w2.ownsRow 0 3 1 u' (xs.length + 1) (xs.map (Value.int .i64) ++ [.int .i64 (j : Int)]))
    (hg : (W.drew.alloc ob).grownBy w2 u.ownBlock) (hb : u'.ownBlock = u.ownBlock ∨ u'.ownBlock = some (W.heap.size + 1)) :
    GInv w who tv mb ab gb gB Bs (pre ++ [p]) (w2.setCell ⟨gb, i, none⟩ u') ∧ Keep w.heap.size Bs W (w2.setCell ⟨gb, i, none⟩ u') ∧ KeepsFrom B W (w2.setCell ⟨gb, i, none⟩ u') := by
  subst hi; subst hj; subst hxs
  exact h.add hgb hro hrk hu hx hn h1 h2 h3 ho hg hb
end Go.Proofs.Ytegejcmihojhbaa
