/-
 The log of undoing as it lies in memory.
 No condition.
-/
import Derived.Test.YtgpekgnhbccnoaaGreatPkY10
import Derived.Test.YtgpekgnhbccnoaaGreatPkY11
import Derived.Test.YtgpekgnhbccnoaaGreatPkY4
import Derived.Test.YtgpekgnhbccnoaaGreatPkY13
namespace Go.Proofs.YtgpekgnhbccnoaaGreat
open Go Go.RowKit Go.Maps

abbrev ikey : Int → Lit := fun a => .int .i64 a
theorem Tryz.keyI64 : Keyed Tryz.prog 2 := int_keyed Tryz.underlying2
/-- What was there of a key: which table, which key, its values, if there was a row. -/
abbrev Ent := Int × Int × Option (List Int)
/-- .. as it lies: two boxes, or three; the values' slice. -/
structure GEnt where
 table : Int
 key : Int
 was : Option (List Int)
 tb : Nat
 kb : Nat
 cb : Nat
 cv : Value
def GEnt.mod (e : GEnt) : Ent := (e.table, e.key, e.was)
def GEnt.fv (e : GEnt) : Value := match e.was with
 | none => .func (.func 119) #[] #[.pointer (some ⟨e.tb, 0, none⟩), .pointer (some ⟨e.kb, 0, none⟩)]
 | some _ => .func (.func 120) #[] #[.pointer (some ⟨e.tb, 0, none⟩), .pointer (some ⟨e.kb, 0, none⟩), .pointer (some ⟨e.cb, 0, none⟩)]
theorem GEnt.shape (e : GEnt) : ∃ f c, e.fv = .func f #[] c := by
 unfold GEnt.fv
 cases e.was <;> exact ⟨_, _, rfl⟩
def GEnt.vals (e : GEnt) : List Value := [.int .i64 e.table, .int .i64 e.key, e.fv]
theorem GEnt.one (e : GEnt) : ∀ u ∈ e.vals, u.oneCell' = true := by
 intro u hu
 unfold GEnt.vals GEnt.fv at hu
 simp only [List.mem_cons, List.not_mem_nil, or_false] at hu
 rcases hu with rfl | rfl | rfl
 ·rfl
 ·rfl
 ·cases e.was <;> rfl
structure EntOk (w : World) (e : GEnt) : Prop where
 tbox : Bk w e.tb 3 [.int .i64 e.table]
 kbox : Bk w e.kb 2 [.int .i64 e.key]
 cbox : ∀ xs, e.was = some xs → Bk w e.cb 24 [e.cv] ∧ OwnInts w 2 e.cv xs ∧ xs.length ≤ 1000000
/-- The blocks of an entry. -/
def GEnt.has (e : GEnt) (k : Nat) : Prop := k = e.tb ∨ k = e.kb ∨ (e.was ≠ none ∧ (k = e.cb ∨ e.cv.ownBlock = some k))
theorem row_ty {w : World} {e : TypeId} {n size : Nat} {v : Value} {cs : List Value} (h : w.ownsRow 0 e size v n cs) {k : Nat} (hk : v.ownBlock = some k) : ∃ cur, w.heap[k]? = some (.cells cur e (0, 0)) := by
 rcases h.2 with ⟨rfl, _⟩ | ⟨g, cap, cur, rfl, _, hg, _⟩
 ·simp [Value.ownBlock] at hk
 ·simp [Value.ownBlock] at hk; subst hk; exact ⟨cur, hg⟩
theorem EntOk.fr {w w' : World} {e : GEnt} {S : Nat → Prop} (h : EntOk w e) (hf : Fr w w' S) (hd : ∀ k, e.has k → ¬ S k) : EntOk w' e :=
 ⟨h.tbox.fr hf (hd _ (.inl rfl)), h.kbox.fr hf (hd _ (.inr (.inl rfl))), fun xs hx => by
  obtain ⟨h1, h2, h3⟩ := h.cbox xs hx
  have hn : e.was ≠ none := by rw [hx]; simp
  exact ⟨h1.fr hf (hd _ (.inr (.inr ⟨hn, .inl rfl⟩))), h2.fr hf fun k hk => hd k (.inr (.inr ⟨hn, .inr hk⟩)), h3⟩⟩
/-- Nothing of S holds what boxes hold. -/
def NoBox (w : World) (S : Nat → Prop) : Prop := ∀ k c e f, w.heap[k]? = some (.cells c e f) → (e = 3 ∨ e = 2 ∨ e = 24) → ¬ S k
theorem EntOk.frT {w w' : World} {e : GEnt} {S : Nat → Prop} (h : EntOk w e) (hf : Fr w w' S) (hd : NoBox w S) : EntOk w' e := by
 refine h.fr hf fun k hk => ?_
 rcases hk with rfl | rfl | ⟨hn, hk⟩
 ·exact hd _ _ _ _ h.tbox (.inl rfl)
 ·exact hd _ _ _ _ h.kbox (.inr (.inl rfl))
 ·obtain ⟨xs, hx⟩ := Option.ne_none_iff_exists'.1 hn
  obtain ⟨h1, h2, _⟩ := h.cbox xs hx
  rcases hk with rfl | hk
  ·exact hd _ _ _ _ h1 (.inr (.inr rfl))
  ·obtain ⟨cur, hc⟩ := row_ty h2 hk
   exact hd _ _ _ _ hc (.inr (.inl rfl))
theorem EntOk.lt {w : World} {e : GEnt} (h : EntOk w e) : ∀ k, e.has k → k < w.heap.size := by
 rintro k (rfl | rfl | ⟨hn, hk⟩)
 ·exact h.tbox.lt
 ·exact h.kbox.lt
 ·obtain ⟨xs, hx⟩ := Option.ne_none_iff_exists'.1 hn
  obtain ⟨h1, h2, _⟩ := h.cbox xs hx
  rcases hk with rfl | hk
  ·exact h1.lt
  ·exact h2.lt k hk

/-- One's entries: their slice, these entries. -/
structure GSl where
 v : Value
 es : List GEnt
abbrev GSl.none : GSl := ⟨.slice Option.none 0 0, []⟩
theorem sent : SlT Tryz.prog 138 152 3 24 := SlT.mk (z := .agg #[.int .i64 0, .int .i64 0, Value.nilFunc]) Tryz.underlying138 (by kernel_rfl) rfl (by decide) (by decide)
def ofM (M : List (Int × GSl)) (who : Int) : GSl := getV M who GSl.none

structure LogG (w : World) (lb mb : Nat) (most used : Int) (M : List (Int × GSl)) (S : Nat → Prop) : Prop where
 root : Bk w lb 103 [.int .i64 most, .int .i64 used, .map (some mb)]
 map : MapAt Tryz.prog 2 ikey GSl.v w mb M
 rows : ∀ p ∈ M, w.ownsRow 0 152 3 p.2.v p.2.es.length (p.2.es.flatMap GEnt.vals)
 ents : ∀ p ∈ M, ∀ e ∈ p.2.es, EntOk w e
 far : ∀ p ∈ M, ∀ q ∈ M, p.1 ≠ q.1 → ∀ k, p.2.v.ownBlock = some k → q.2.v.ownBlock ≠ some k
 some_ : ∀ p ∈ M, p.2.es ≠ []
 inL : S lb
 inM : S mb
 inV : ∀ p ∈ M, ∀ k, p.2.v.ownBlock = some k → S k
 inE : ∀ p ∈ M, ∀ e ∈ p.2.es, ∀ k, e.has k → S k
 lt : ∀ k, S k → k < w.heap.size
theorem LogG.fr {w w' : World} {lb mb : Nat} {most used : Int} {M : List (Int × GSl)} {S T : Nat → Prop} (h : LogG w lb mb most used M S) (hf : Fr w w' T) (hd : ∀ k, S k → ¬ T k) : LogG w' lb mb most used M S :=
 ⟨h.root.fr hf (hd _ h.inL), h.map.fr hf (hd _ h.inM), fun p hp => hf.own (h.rows p hp) fun k hk => hd k (h.inV p hp k hk), fun p hp e he => (h.ents p hp e he).fr hf fun k hk => hd k (h.inE p hp e he k hk), h.far, h.some_, h.inL, h.inM, h.inV, h.inE, fun k hk => Nat.lt_of_lt_of_le (h.lt k hk) hf.size⟩
theorem LogG.fr0 {w w' : World} {lb mb : Nat} {most used : Int} {M : List (Int × GSl)} {S : Nat → Prop} (h : LogG w lb mb most used M S) (hf : Fr w w' Nil) : LogG w' lb mb most used M S := h.fr hf fun _ _ h => h
theorem LogG.more {w : World} {lb mb : Nat} {most used : Int} {M : List (Int × GSl)} {S T : Nat → Prop} (h : LogG w lb mb most used M S) (hs : ∀ k, S k → T k) (ht : ∀ k, T k → k < w.heap.size) : LogG w lb mb most used M T :=
 ⟨h.root, h.map, h.rows, h.ents, h.far, h.some_, hs _ h.inL, hs _ h.inM, fun p hp k hk => hs k (h.inV p hp k hk), fun p hp e he k hk => hs k (h.inE p hp e he k hk), ht⟩
/-- What stands at a number. -/
theorem ofM_cases {M : List (Int × GSl)} (hn : (M.map Prod.fst).Nodup) (who : Int) : ((M.map Prod.fst).contains who = true ∧ (who, ofM M who) ∈ M) ∨ ((M.map Prod.fst).contains who = false ∧ ofM M who = GSl.none) := by
 cases hc : (M.map Prod.fst).contains who with
 | false => exact .inr ⟨rfl, getV_none hc⟩
 | true =>
  obtain ⟨p, hp, rfl⟩ := List.mem_map.1 (List.contains_iff_mem.1 hc)
  refine .inl ⟨rfl, ?_⟩
  have : ofM M p.1 = p.2 := getV_mem (v := p.2) hn hp
  rw [this]
  exact hp
structure LogOf (w : World) (g : GSl) (S : Nat → Prop) : Prop where
 row : w.ownsRow 0 152 3 g.v g.es.length (g.es.flatMap GEnt.vals)
 ents : ∀ e ∈ g.es, EntOk w e
 inV : ∀ k, g.v.ownBlock = some k → S k
 inE : ∀ e ∈ g.es, ∀ k, e.has k → S k
theorem LogG.at {w : World} {lb mb : Nat} {most used : Int} {M : List (Int × GSl)} {S : Nat → Prop} (h : LogG w lb mb most used M S) (who : Int) : LogOf w (ofM M who) S ∧ (M.map Prod.fst).contains who = !(ofM M who).es.isEmpty := by
 rcases ofM_cases h.map.nodup who with ⟨h1, h2⟩ | ⟨h1, h2⟩
 ·refine ⟨⟨h.rows _ h2, h.ents _ h2, h.inV _ h2, h.inE _ h2⟩, ?_⟩
  have := h.some_ _ h2
  rw [h1]
  cases hc : (ofM M who).es with
  | nil => exact absurd hc this
  | cons _ _ => rfl
 ·rw [h2, h1]
  exact ⟨⟨World.ownsRow_nil _ _ _ _, (fun e he => by cases he), (fun k hk => by cases hk), (fun e he => by cases he)⟩, rfl⟩
def delM (M : List (Int × GSl)) (who : Int) : List (Int × GSl) := M.filter fun p => !decide (p.1 = who)
theorem mem_delM {M : List (Int × GSl)} {who : Int} {p : Int × GSl} : p ∈ delM M who ↔ p ∈ M ∧ p.1 ≠ who := by
 unfold delM
 rw [List.mem_filter]
 simp
theorem find_delM {M : List (Int × GSl)} {x who : Int} (h : x ≠ who) : (delM M who).find? (fun p => decide (p.1 = x)) = M.find? (fun p => decide (p.1 = x)) := by
 unfold delM
 rw [List.find?_filter]
 congr 1
 funext p
 by_cases e : p.1 = x
 ·simp [e, h]
 ·simp [e]
theorem find_delM_self (M : List (Int × GSl)) (who : Int) : (delM M who).find? (fun p => decide (p.1 = who)) = none := by
 rw [List.find?_eq_none]
 intro p hp
 have := (mem_delM.1 hp).2
 simp [this]
theorem ofM_put (M : List (Int × GSl)) (who x : Int) (g : GSl) : ofM (delM M who ++ [(who, g)]) x = if x = who then g else ofM M x := by
 unfold ofM getV
 rw [List.find?_append]
 by_cases e : x = who
 ·subst e
  rw [find_delM_self, if_pos rfl]
  simp
 ·rw [find_delM e, if_neg e]
  cases M.find? (fun p => decide (p.1 = x)) with
  | some q => rfl
  | none =>
   have : ¬ who = x := fun h => e h.symm
   simp [this]
/-- The blocks that a change at who's entries may turn. -/
def Turns (lb mb : Nat) (M : List (Int × GSl)) (who : Int) (k : Nat) : Prop := k = lb ∨ k = mb ∨ (ofM M who).v.ownBlock = some k
theorem LogG.turns {w : World} {lb mb : Nat} {most used : Int} {M : List (Int × GSl)} {S : Nat → Prop} (h : LogG w lb mb most used M S) {who : Int} : NoBox w (Turns lb mb M who) ∧ (∀ k, Turns lb mb M who k → S k) ∧ ∀ p ∈ M, p.1 ≠ who → ∀ k, p.2.v.ownBlock = some k → ¬ Turns lb mb M who k := by
 have hr := (h.at who).1
 refine ⟨fun k c e f hc he ht => ?_, fun k ht => ?_, fun p hp hne k hk ht => ?_⟩
 ·rcases ht with rfl | rfl | ht
  ·have := h.root
   unfold Bk at this
   rw [this] at hc; cases hc
   rcases he with he | he | he <;> exact absurd he (by decide)
  ·obtain ⟨D, ⟨es, ck, hm, _⟩, _⟩ := h.map
   rw [hm] at hc; cases hc
  ·obtain ⟨cur, hc2⟩ := row_ty hr.row ht
   rw [hc2] at hc; cases hc
   rcases he with he | he | he <;> exact absurd he (by decide)
 ·rcases ht with rfl | rfl | ht
  ·exact h.inL
  ·exact h.inM
  ·exact hr.inV k ht
 ·obtain ⟨cur, hc2⟩ := row_ty (h.rows p hp) hk
  rcases ht with rfl | rfl | ht
  ·have := h.root
   unfold Bk at this
   rw [this] at hc2; simp at hc2
  ·obtain ⟨D, ⟨es, ck, hm, _⟩, _⟩ := h.map
   rw [hm] at hc2; cases hc2
  ·rcases ofM_cases h.map.nodup who with ⟨_, h2⟩ | ⟨_, h2⟩
   ·exact h.far p hp _ h2 hne k hk ht
   ·rw [h2] at ht; cases ht
/-- Others' entries, behind a change at who's. -/
theorem LogG.set {W W' : World} {lb mb : Nat} {most used u : Int} {M : List (Int × GSl)} {S S' : Nat → Prop} (h : LogG W lb mb most used M S) (hS : ∀ k, S k → S' k) (hS' : ∀ k, S' k → k < W'.heap.size) (who : Int) (g : GSl) (hroot : Bk W' lb 103 [.int .i64 most, .int .i64 u, .map (some mb)])
  (hmap : MapAt Tryz.prog 2 ikey GSl.v W' mb (delM M who ++ [(who, g)])) (hf : Fr W W' (Turns lb mb M who)) (hrow : W'.ownsRow 0 152 3 g.v g.es.length (g.es.flatMap GEnt.vals)) (hents : ∀ e ∈ g.es, EntOk W' e)
  (hat : g.v.ownBlock = (ofM M who).v.ownBlock ∨ ∀ k, g.v.ownBlock = some k → W.heap.size ≤ k) (hne : g.es ≠ []) (hin : ∀ e ∈ g.es, ∀ k, e.has k → S' k) (hiv : ∀ k, g.v.ownBlock = some k → S' k) : LogG W' lb mb most u (delM M who ++ [(who, g)]) S' := by
 obtain ⟨hnb, hts, hto⟩ := h.turns (who := who)
 have hgv : ∀ k, g.v.ownBlock = some k → Turns lb mb M who k ∨ W.heap.size ≤ k := fun k hk => by
  rcases hat with hat | hat
  ·exact .inl (.inr (.inr (hat.symm.trans hk)))
  ·exact .inr (hat k hk)
 refine ⟨hroot, hmap, fun p hp => ?_, fun p hp e he => ?_, fun p hp q hq hpq k hk hk2 => ?_, fun p hp => ?_, hS _ h.inL, hS _ h.inM, fun p hp k hk => ?_, fun p hp e he k hk => ?_, fun k hk => ?_⟩
 ·rcases List.mem_append.1 hp with hp | hp
  ·obtain ⟨hp, hpn⟩ := mem_delM.1 hp
   exact hf.own (h.rows p hp) fun k hk => hto p hp hpn k hk
  ·simp at hp; subst hp; exact hrow
 ·rcases List.mem_append.1 hp with hp | hp
  ·obtain ⟨hp, hpn⟩ := mem_delM.1 hp
   exact (h.ents p hp e he).frT hf hnb
  ·simp at hp; subst hp; exact hents e he
 ·have key : ∀ p ∈ delM M who, ∀ k, p.2.v.ownBlock = some k → g.v.ownBlock ≠ some k := fun p hp k hk hk2 => by
   obtain ⟨hp, hpn⟩ := mem_delM.1 hp
   rcases hgv k hk2 with h1 | h1
   ·exact hto p hp hpn k hk h1
   ·have := (World.ownsRow.lt (h.rows p hp) k hk).2; omega
  rcases List.mem_append.1 hp with hp | hp
  ·rcases List.mem_append.1 hq with hq | hq
   ·exact h.far p (mem_delM.1 hp).1 q (mem_delM.1 hq).1 hpq k hk hk2
   ·simp at hq; subst hq; exact key p hp k hk hk2
  ·simp at hp; subst hp
   rcases List.mem_append.1 hq with hq | hq
   ·exact key q hq k hk2 hk
   ·simp at hq; subst hq; exact hpq rfl
 ·rcases List.mem_append.1 hp with hp | hp
  ·exact h.some_ p (mem_delM.1 hp).1
  ·simp at hp; subst hp; exact hne
 ·rcases List.mem_append.1 hp with hp | hp
  ·exact hS _ (h.inV p (mem_delM.1 hp).1 k hk)
  ·simp at hp; subst hp
   exact hiv k hk
 ·rcases List.mem_append.1 hp with hp | hp
  ·exact hS _ (h.inE p (mem_delM.1 hp).1 e he k hk)
  ·simp at hp; subst hp; exact hin e he k hk
 ·exact hS' k hk
/-- A number's entries, in order. -/
def ofL (L : List (Int × Ent)) (who : Int) : List Ent := (L.filter fun p => p.1 == who).map Prod.snd
/-- At lb lies a log with room for most entries that reads as L; all that it is lies in S. -/
def LogAt (w : World) (lb : Nat) (most : Int) (L : List (Int × Ent)) (S : Nat → Prop) : Prop :=
 ∃ mb M, LogG w lb mb most (L.length : Nat) M S ∧ ∀ who, (ofM M who).es.map GEnt.mod = ofL L who
theorem LogAt.fr {w w' : World} {lb : Nat} {most : Int} {L : List (Int × Ent)} {S T : Nat → Prop} (h : LogAt w lb most L S) (hf : Fr w w' T) (hd : ∀ k, S k → ¬ T k) : LogAt w' lb most L S := by
 obtain ⟨mb, M, h1, h2⟩ := h
 exact ⟨mb, M, h1.fr hf hd, h2⟩
theorem LogAt.lt {w : World} {lb : Nat} {most : Int} {L : List (Int × Ent)} {S : Nat → Prop} (h : LogAt w lb most L S) : ∀ k, S k → k < w.heap.size := by
 obtain ⟨mb, M, h1, h2⟩ := h
 exact h1.lt
/-- The log is another; nothing else has turned but U. -/
def LogUpd (w : World) (lb : Nat) (most : Int) (L' : List (Int × Ent)) (S : Nat → Prop) (w' : World) : Prop := LogAt w' lb most L' (Gr S w w') ∧ Fr w w' S
abbrev lptr (lb : Nat) : Value := .pointer (some ⟨lb, 0, none⟩)
end Go.Proofs.YtgpekgnhbccnoaaGreat
