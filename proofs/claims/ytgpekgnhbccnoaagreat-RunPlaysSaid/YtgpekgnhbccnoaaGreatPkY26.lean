/-
 Rows and logs as things that lie apart: what is asked of them, in these terms.
 No condition but sizes.
 What else is asked of rows, in terms of things that lie apart.
 No condition but sizes.
 The document's log (interlockref14) in memory; New, last, Undo.
 The document's log: walk of Note.
 The document's log: walks of Back, Forget, Of.
-/
import Derived.Test.YtgpekgnhbccnoaaGreatPkY1
import Derived.RangeFuncNested
import Derived.RangeFuncBound
import Derived.RangeFuncCalls
import Derived.RangeFuncLeaves
import Derived.Laws.EntriesVeiled
import Derived.Test.YtgpekgnhbccnoaaGreatProg
import Derived.Shelf.Abstract
import Derived.Shelf.RegionOpen
import Derived.OwnWalkIn
import Derived.TacticsInMore
import Derived.LoopNIn
import Derived.LoopIn
import Derived.Test.YtgpekgnhbccnoaaGreatPkY16
import Derived.Test.YtgpekgnhbccnoaaGreatPkY10
import Derived.Deep.RegionLawGrows
import Derived.Deep.AppendLies
import Derived.Shelf.SlIterI.Nil
import Derived.Shelf.SortM.Plain
import Derived.Shelf.SortM.SortNone
import Derived.Ground.GgzProg
import Derived.Ground.SlgmProg
import Derived.Shelf.AbstractIn
import Derived.Test.YtgpekgnhbccnoaaGreatPkY7
import Derived.Deep.QuietTactic
import Derived.BigQuiet
import Derived.Deep.RegionHeld3
import Derived.Test.YtgpekgnhbccnoaaGreatPkY25
namespace Go.Proofs.YtgpekgnhbccnoaaGreat
open Go Go.RowKit

def rowsT (rb : Nat) (M : List MTab) : Thing where
 At w S := Rws w rb M S
 fr h hf hd := h.fr hf hd
 lt h := h.lt
def logT (lb : Nat) (most : Int) (L : List (Int × Ent)) : Thing where
 At w S := LogAt w lb most L S
 fr h hf hd := h.fr hf hd
 lt h := h.lt
section
variable {w0 W : World} {l : List Thing}
theorem st_put (h : Lies w0 W l) {rb : Nat} {M : List MTab} (i : Nat) (hi : l[i]? = some (rowsT rb M)) (t k : Int) (v : Value) (xs : List Int) (hg : Good M) (hv : IntsAt W v xs) (hvl : xs.length ≤ 1000000) :
  Calls Tryz.prog 36 #[rptr rb, .int .i64 t, .int .i64 k, v] W fun e W' => e = .returned (.int .i64 (mput M t k xs).2) ∧ Lies w0 W' (l.set i (rowsT rb (mput M t k xs).1)) := by
 obtain ⟨S, h1, _, h2⟩ := h.get i _ hi
 refine (api_put t k v xs h1 hg hv hvl).mono fun _ W' ⟨he, S', a, b, c⟩ => ⟨he, h2 W' S' _ a b c⟩
theorem st_del (h : Lies w0 W l) {rb : Nat} {M : List MTab} (i : Nat) (hi : l[i]? = some (rowsT rb M)) (t k : Int) (hg : Good M) :
  Calls Tryz.prog 96 #[rptr rb, .int .i64 t, .int .i64 k] W fun e W' => e = .returned (.tuple #[.bool (mdel M t k).2.1, .int .i64 (mdel M t k).2.2]) ∧ Lies w0 W' (l.set i (rowsT rb (mdel M t k).1)) := by
 obtain ⟨S, h1, _, h2⟩ := h.get i _ hi
 refine (api_del t k h1 hg).mono fun _ W' ⟨he, S', a, b, c⟩ => ⟨he, h2 W' S' _ a b c⟩
theorem st_sum (h : Lies w0 W l) {rb : Nat} {M : List MTab} (i : Nat) (hi : l[i]? = some (rowsT rb M)) (t k : Int) (hg : Good M) :
  Calls Tryz.prog 37 #[rptr rb, .int .i64 t, .int .i64 k] W fun e W' => e = .returned (.int .i64 (msum (mtab M t) k)) ∧ Lies w0 W' l := by
 obtain ⟨S, h1, _⟩ := h.get i _ hi
 exact (api_sum t k h1 hg).mono fun _ W' ⟨he, hf⟩ => ⟨he, h.fr0 hf⟩
def StNew (w0 : World) (l : List Thing) (f : Nat → Thing) (e : Ending) (W' : World) : Prop := ∃ b, e = .returned (rptr b) ∧ Lies w0 W' (l ++ [f b])
theorem st_new (h : Lies w0 W l) (most : Int) : Calls Tryz.prog 12 #[.int .i64 most] W (StNew w0 l fun b => logT b (max 0 most) []) :=
 (unew_any most W).mono fun _ _ ⟨b, S', he, hr, hS, hf⟩ => ⟨b, he, h.add (logT b (max 0 most) []) (S := S') hr hS hf⟩
theorem st_ulen (h : Lies w0 W l) {lb : Nat} {most : Int} {L : List (Int × Ent)} (i : Nat) (hi : l[i]? = some (logT lb most L)) (who : Int) (hw : (Lit.int .i64 who).wf = true) :
  Calls Tryz.prog 28 #[lptr lb, .int .i64 who] W fun e W' => e = .returned (.int .i64 (ofL L who).length) ∧ Lies w0 W' l := by
 obtain ⟨S, h1, _⟩ := h.get i _ hi
 exact (ulen_any who W h1 hw).mono fun _ W' ⟨he, hf⟩ => ⟨he, hf ▸ h⟩
end
end Go.Proofs.YtgpekgnhbccnoaaGreat
namespace Go.Proofs.YtgpekgnhbccnoaaGreat
open Go Go.RowKit

section
variable {w0 W : World} {l : List Thing}
theorem GetRet.fr {T : MTab} {k : Int} {w w' : World} {e : Ending} (h : GetRet T k w e w') : Fr w w' Nil := by
 rcases h with ⟨_, _, _, _, _, h⟩ | ⟨_, _, h⟩
 ·exact h.2.2
 ·exact h
theorem st_get (h : Lies w0 W l) {rb : Nat} {M : List MTab} (i : Nat) (hi : l[i]? = some (rowsT rb M)) (t k : Int) (hg : Good M) :
  Calls Tryz.prog 94 #[rptr rb, .int .i64 t, .int .i64 k] W fun e W' => GetRet (mtab M t) k W e W' ∧ Lies w0 W' l := by
 obtain ⟨S, h1, _⟩ := h.get i _ hi
 exact (api_get t k h1 hg).mono fun _ W' hr => ⟨hr, h.fr0 hr.fr⟩
theorem st_set (h : Lies w0 W l) {rb : Nat} {M : List MTab} (i : Nat) (hi : l[i]? = some (rowsT rb M)) (t k c x : Int) (hg : Good M) :
  Calls Tryz.prog 95 #[rptr rb, .int .i64 t, .int .i64 k, .int .i64 c, .int .i64 x] W fun e W' => e = .returned (.tuple #[.bool (mset M t k c x).2.1, .int .i64 (mset M t k c x).2.2]) ∧ Lies w0 W' (l.set i (rowsT rb (mset M t k c x).1)) := by
 obtain ⟨S, h1, _, h2⟩ := h.get i _ hi
 refine (api_set t k c x h1 hg).mono fun _ W' ⟨he, S', a, b, c⟩ => ⟨he, h2 W' S' _ a b c⟩
end
end Go.Proofs.YtgpekgnhbccnoaaGreat
namespace Go.Proofs.YtgpekgnhbccnoaaGreat
open Go Go.RowKit

structure DEnt where
 who : Int
 table : Int
 key : Int
 cv : Value
 cols : List Int
 sm : Bool
abbrev DEnt.vals (e : DEnt) : List Value := [.int .i64 e.who, .int .i64 e.table, .int .i64 e.key, e.cv, .bool e.sm]
def DEnt.mod (e : DEnt) : Int × Ent := (e.who, (e.table, e.key, if e.sm then some e.cols else none))
def dvals (g : List DEnt) : List Value := g.flatMap DEnt.vals
def dmods (g : List DEnt) : List (Int × Ent) := g.map DEnt.mod
theorem dvals_append (a b : List DEnt) : dvals (a ++ b) = dvals a ++ dvals b := by simp [dvals]
theorem dvals_one {g : List DEnt} (h : ∀ e ∈ g, e.cv.oneCell' = true) : ∀ u ∈ dvals g, u.oneCell' = true := by
 intro u hu
 simp only [dvals, List.mem_flatMap, DEnt.vals] at hu
 obtain ⟨r, hr, hu⟩ := hu
 simp only [List.mem_cons, List.not_mem_nil, or_false] at hu
 rcases hu with rfl | rfl | rfl | rfl | rfl
 ·rfl
 ·rfl
 ·rfl
 ·exact h r hr
 ·rfl
theorem slD : SlT Tryz.prog 64 176 5 56 :=
 SlT.mk (z := .agg #[.int .i64 0, .int .i64 0, .int .i64 0, .slice none 0 0, .bool false]) Tryz.underlying64 (by kernel_rfl) (by rfl) (by decide) (by decide)
theorem sl_dent (w : World) (e : TypeId) (g : DEnt) : SlAt (w.alloc (.cells g.vals.toArray e)) 5 (.slice (some ⟨w.heap.size, 0, none⟩) 1 1) 1 (dvals [g]) :=
 ⟨rfl, .inr ⟨_, 1, rfl, fun j u hu => by
  rw [Addr.add_lit, Nat.zero_add, (Bk.new w e g.vals.toArray).cell j]
  simpa [dvals] using hu⟩⟩
structure DOk (w : World) (e : DEnt) : Prop where
 own : OwnInts w 2 e.cv e.cols
 len : e.cols.length ≤ 1000000
theorem DOk.fr {w w' : World} {e : DEnt} {S : Nat → Prop} (h : DOk w e) (hf : Fr w w' S) (hd : ∀ k, e.cv.ownBlock = some k → ¬ S k) : DOk w' e := ⟨h.own.fr hf hd, h.len⟩
structure DLogG (w : World) (lb : Nat) (most : Int) (lv : Value) (g : List DEnt) : Prop where
 root : Bk w lb 66 [.int .i64 most, lv]
 own : w.ownsRow 0 176 5 lv g.length (dvals g)
 ok : ∀ e ∈ g, DOk w e
 neL : ∀ k, lv.ownBlock = some k → k ≠ lb
 neC : ∀ e ∈ g, ∀ k, e.cv.ownBlock = some k → k ≠ lb ∧ lv.ownBlock ≠ some k
def DHas (lb : Nat) (lv : Value) (g : List DEnt) (k : Nat) : Prop := k = lb ∨ lv.ownBlock = some k ∨ ∃ e ∈ g, e.cv.ownBlock = some k
theorem DLogG.fr {w w' : World} {lb : Nat} {most : Int} {lv : Value} {g : List DEnt} {T : Nat → Prop} (h : DLogG w lb most lv g) (hf : Fr w w' T) (hd : ∀ k, DHas lb lv g k → ¬ T k) : DLogG w' lb most lv g :=
 ⟨h.root.fr hf (hd lb (.inl rfl)), hf.own h.own fun k hk => hd k (.inr (.inl hk)), fun e he => (h.ok e he).fr hf fun k hk => hd k (.inr (.inr ⟨e, he, hk⟩)), h.neL, h.neC⟩
theorem DLogG.shape {w : World} {lb : Nat} {most : Int} {lv : Value} {g : List DEnt} (h : DLogG w lb most lv g) : ∃ a c, lv = .slice a g.length c ∧ g.length ≤ c := by
 obtain ⟨a, c, rfl⟩ := (SlAt.of_own h.own).1.shape
 exact ⟨a, c, rfl, (SlAt.of_own h.own).2 _ _ _ rfl⟩
def DLogAt (w : World) (lb : Nat) (most : Int) (L : List (Int × Ent)) (S : Nat → Prop) : Prop :=
 ∃ lv g, DLogG w lb most lv g ∧ dmods g = L ∧ (∀ k, DHas lb lv g k → S k) ∧ ∀ k, S k → k < w.heap.size
theorem DLogAt.fr {w w' : World} {lb : Nat} {most : Int} {L : List (Int × Ent)} {S T : Nat → Prop} (h : DLogAt w lb most L S) (hf : Fr w w' T) (hd : ∀ k, S k → ¬ T k) : DLogAt w' lb most L S := by
 obtain ⟨lv, g, h1, h2, h3, h4⟩ := h
 exact ⟨lv, g, h1.fr hf fun k hk => hd k (h3 k hk), h2, h3, fun k hk => Nat.lt_of_lt_of_le (h4 k hk) hf.size⟩
def dlogT (lb : Nat) (most : Int) (L : List (Int × Ent)) : Thing where
 At w S := DLogAt w lb most L S
 fr h hf hd := h.fr hf hd
 lt h := by obtain ⟨lv, g, _, _, _, h4⟩ := h; exact h4
/-- The list is another one. -/
theorem DLogG.store {w w3 : World} {lb : Nat} {most : Int} {lv lv' : Value} {g g' : List DEnt} (h : DLogG w lb most lv g) (hf : Fr w w3 (fun k => lv.ownBlock = some k)) (ho : w3.ownsRow 0 176 5 lv' g'.length (dvals g'))
  (hn : ∀ k, lv'.ownBlock = some k → k ≠ lb) (hok : ∀ e ∈ g', DOk w3 e ∧ ∀ k, e.cv.ownBlock = some k → k ≠ lb ∧ lv'.ownBlock ≠ some k) :
  DLogG (w3.setCell ⟨lb, 1, none⟩ lv') lb most lv' g' ∧ Fr w (w3.setCell ⟨lb, 1, none⟩ lv') (fun k => k = lb ∨ lv.ownBlock = some k) := by
 have hst : Fr w3 (w3.setCell ⟨lb, 1, none⟩ lv') (fun k => k = lb) := Fr.store w3 lb 1 lv'
 refine ⟨⟨(h.root.fr hf fun hk => h.neL lb hk rfl).set 1 lv', hst.own ho hn, fun e he => (hok e he).1.fr hst fun k hk => ((hok e he).2 k hk).1, hn, fun e he k hk => (hok e he).2 k hk⟩, ?_⟩
 exact (hf.mono fun k _ hk => .inr hk).trans hst fun k _ hk => .inl hk
def DNewRet (most : Int) (w : World) (e : Ending) (w' : World) : Prop := ∃ lb, e = .returned (rptr lb) ∧ DLogG w' lb (max 0 most) (.slice none 0 0) [] ∧ lb = w.heap.size ∧ w'.heap.size = lb + 1 ∧ Fr w w' Nil
set_option maxRecDepth 100000 in
set_option maxHeartbeats 1000000 in
theorem dnew_any (most : Int) (w : World) : Calls Tryz.prog 13 #[.int .i64 most] w (DNewRet most w) := by
 go_enter Tryz.func13, Tryz.ntmps13
 go_wp2_with fail
 go_ret
 refine ⟨w.heap.size, ?_, ⟨Bk.new _ _ _, World.ownsRow_nil _ _ _ _, (fun _ h => by cases h), (fun _ h => by cases h), (fun _ h => by cases h)⟩, rfl, by simp, (Fr.refl w Nil).alloc _⟩
 rfl
end Go.Proofs.YtgpekgnhbccnoaaGreat
namespace Go.Proofs.YtgpekgnhbccnoaaGreat
open Go Go.RowKit

def noteD (M : List MTab) (most : Int) (L : List (Int × Ent)) (t : Int) : Int := if (mtab M t).1 = 0 then 1 else if most ≤ (L.length : Int) then 2 else 0
theorem dmods_len (g : List DEnt) : (dmods g).length = g.length := List.length_map _
def DUpd (w : World) (lb : Nat) (most : Int) (lv : Value) (g : List DEnt) (L' : List (Int × Ent)) (w' : World) : Prop :=
 ∃ lv' g', DLogG w' lb most lv' g' ∧ dmods g' = L' ∧ (∀ j, DHas lb lv' g' j → DHas lb lv g j ∨ w.heap.size ≤ j) ∧ Fr w w' (fun j => j = lb ∨ lv.ownBlock = some j)
theorem DUpd.same {w w' : World} {lb : Nat} {most : Int} {lv : Value} {g : List DEnt} (h : DLogG w lb most lv g) (hf : Fr w w' Nil) : DUpd w lb most lv g (dmods g) w' :=
 ⟨lv, g, h.fr hf fun _ _ h => h, rfl, fun _ h => .inl h, hf.of_nil⟩
/-- One more entry. -/
theorem dnote_done {w w1 w3 : World} {lb : Nat} {most : Int} {a a3 : Option Addr} {c c3 : Nat} {g : List DEnt} (e : DEnt) (h : DLogG w lb most (.slice a g.length c) g) (hf1 : Fr w w1 Nil)
  (he : DOk w1 e) (hen : ∀ k, e.cv.ownBlock = some k → w.heap.size ≤ k ∧ k < w1.heap.size)
  (ho : w3.ownsRow 0 176 5 (.slice a3 (g.length + 1) c3) (g.length + 1) (dvals g ++ dvals [e]))
  (hg3 : w1.grownBy w3 (Value.slice a g.length c).ownBlock) (hat : (Value.slice a3 (g.length + 1) c3).ownBlock = (Value.slice a g.length c).ownBlock ∨ (Value.slice a3 (g.length + 1) c3).ownBlock = some w1.heap.size) :
  DUpd w lb most (.slice a g.length c) g (dmods g ++ [e.mod]) (w3.setCell ⟨lb, 1, none⟩ (.slice a3 (g.length + 1) c3)) := by
 have hsz := hf1.size
 have hlb := h.root.lt
 have hf3 : Fr w w3 (fun k => (Value.slice a g.length c).ownBlock = some k) := (hf1.of_nil).grown hg3 fun k hk _ => hk
 have hf13 : Fr w1 w3 (fun k => (Value.slice a g.length c).ownBlock = some k) := (Fr.refl w1 _).grown hg3 fun k hk _ => hk
 have hrow : ∀ k, (Value.slice a g.length c).ownBlock = some k → k < w.heap.size := fun k hk => (World.ownsRow.lt h.own k hk).2
 have hnew : ∀ k, (Value.slice a3 (g.length + 1) c3).ownBlock = some k → (Value.slice a g.length c).ownBlock = some k ∨ k = w1.heap.size := fun k hk => by
  rcases hat with q | q
  ·exact .inl (by rw [← q]; exact hk)
  ·rw [q] at hk; cases hk; exact .inr rfl
 have hlc : ∀ x ∈ g, ∀ k, x.cv.ownBlock = some k → k < w.heap.size := fun x hx k hk => (h.ok x hx).own.lt k hk
 have hmem : ∀ x ∈ g ++ [e], x ∈ g ∨ x = e := fun x hx => by simpa using hx
 obtain ⟨s1, s2⟩ := h.store hf3 (g' := g ++ [e]) (lv' := .slice a3 (g.length + 1) c3) (by rw [List.length_append, dvals_append]; exact ho)
  (fun k hk => by
   rcases hnew k hk with q | rfl
   ·exact h.neL k q
   ·omega)
  (fun x hx => by
   rcases hmem x hx with hx | rfl
   ·refine ⟨(h.ok x hx).fr hf3 fun k hk hr => (h.neC x hx k hk).2 hr, fun k hk => ⟨(h.neC x hx k hk).1, fun hr => ?_⟩⟩
    rcases hnew k hr with q | rfl
    ·exact (h.neC x hx k hk).2 q
    ·have := hlc x hx _ hk; omega
   ·refine ⟨he.fr hf13 fun k hk hr => by have := (hen k hk).1; have := hrow k hr; omega, fun k hk => ⟨by have := (hen k hk).1; omega, fun hr => ?_⟩⟩
    rcases hnew k hr with q | rfl
    ·have := (hen k hk).1; have := hrow k q; omega
    ·have := (hen _ hk).2; omega)
 refine ⟨_, _, s1, by simp [dmods], fun j hj => ?_, s2⟩
 rcases hj with rfl | hj | ⟨x, hx, hj⟩
 ·exact .inl (.inl rfl)
 ·rcases hnew j hj with q | rfl
  ·exact .inl (.inr (.inl q))
  ·exact .inr hsz
 ·rcases hmem x hx with hx | rfl
  ·exact .inl (.inr (.inr ⟨x, hx, hj⟩))
  ·exact .inr (hen j hj).1

set_option maxRecDepth 100000 in
set_option maxHeartbeats 2000000 in
theorem dnote_any {lb qb N : Nat} {most : Int} {lv : Value} {g : List DEnt} {M : List MTab} {Sq : Nat → Prop} (who t k : Int) (w : World) (h : DLogG w lb most lv g) (hr : RefAt w qb (colsN M) (flatM M) Sq) (hg : Good M) (hf : Few N M) (hN : N < 1000) (hl : g.length ≤ 100000) :
  Calls Tryz.prog 58 #[rptr lb, .int .i64 who, rptr qb, .int .i64 t, .int .i64 k] w fun e w' => e = .returned (.int .i64 (noteD M most (dmods g) t)) ∧ DUpd w lb most lv g (noteL M most (dmods g) who t k) w' := by
 obtain ⟨a, c, rfl, hc⟩ := h.shape
 have q0 := h.root.cell 0
 have q1 := h.root.cell 1
 have hq := qok_flat hg hf (by omega)
 simp only [List.getElem?_cons_zero, List.getElem?_cons_succ] at q0 q1
 have HQ := Lib.hid hq
 have HG := Lib.hid h
 have HR := Lib.hid hr
 have hNl : (colsN M).length ≤ 1000000 := by have := hq.n; omega
 have hcl := rel_cols M t
 clear h hr hq
 by_cases h0 : (mtab M t).1 = 0
 ·have HD : Hid (noteD M most (dmods g) t = 1 ∧ noteL M most (dmods g) who t k = dmods g) := by
   have : noteD M most (dmods g) t = 1 ∧ noteL M most (dmods g) who t k = dmods g := by
    unfold noteD noteL noteE
    rw [if_pos h0, if_pos h0]
    exact ⟨rfl, if_neg (by decide)⟩
   exact this
  rw [h0] at hcl
  have hcl2 : qcols (colsN M) t = 0 := hcl
  have HC := Lib.hid hcl2
  clear hcl hcl2 h0
  go_enter Tryz.func58, Tryz.ntmps58
  go_wp2_with fail
  refine (rcols_any t _ HR.out hNl).mono ?_
  rintro e w1 ⟨rfl, rfl⟩
  rw [HC.out]
  go_wp2_with fail
  go_ret
  rw [HD.out.1, HD.out.2]
  exact ⟨rfl, DUpd.same HG.out (Fr.refl _ _)⟩
 ·have hcp : (0 : Int) < (mtab M t).1 := by omega
  have hcn : ((((mtab M t).1 : Nat) : Int) == 0) = false := by rw [beq_eq_false_iff_ne]; omega
  by_cases h1 : most ≤ (g.length : Int)
  ·have HD : Hid (noteD M most (dmods g) t = 2 ∧ noteL M most (dmods g) who t k = dmods g) := by
    have : noteD M most (dmods g) t = 2 ∧ noteL M most (dmods g) who t k = dmods g := by
     unfold noteD noteL noteE
     rw [if_neg h0, if_neg h0, dmods_len, if_pos h1, if_pos h1]
     exact ⟨rfl, if_neg (by decide)⟩
    exact this
   go_enter Tryz.func58, Tryz.ntmps58
   go_wp2_with fail
   refine (rcols_any t _ HR.out hNl).mono ?_
   rintro e w1 ⟨rfl, rfl⟩
   rw [hcl]
   clear hcl h0
   go_wp2_with fail
   go_quiet (fail)
   rename_i nq
   go_wp2_with fail
   go_ret
   rw [HD.out.1, HD.out.2]
   exact ⟨rfl, DUpd.same HG.out (Fr.drewN (Fr.refl _ _) _)⟩
  ·have HD : Hid (noteD M most (dmods g) t = 0 ∧ noteL M most (dmods g) who t k = dmods g ++ [(who, entOf M t k)]) := by
    have : noteD M most (dmods g) t = 0 ∧ noteL M most (dmods g) who t k = dmods g ++ [(who, entOf M t k)] := by
     unfold noteD noteL noteE
     rw [if_neg h0, if_neg h0, dmods_len, if_neg h1, if_neg h1]
     exact ⟨rfl, if_pos rfl⟩
    exact this
   have hget : qget (flatM M) t k = mget (mtab M t) k := rel_get M t k
   have HGet := Lib.hid hget
   clear hget
   go_enter Tryz.func58, Tryz.ntmps58
   go_wp2_with fail
   refine (rcols_any t _ HR.out hNl).mono ?_
   rintro e w1 ⟨rfl, rfl⟩
   rw [hcl]
   clear hcl h0
   go_wp2_with fail
   go_quiet (fail)
   rename_i nq
   have HFn := Lib.hid (Fr.drewN (Fr.refl w Nil) nq)
   clear q0 q1
   go_wp2_with fail
   refine (rget_any t k _ (HR.out.fr0 HFn.out) HQ.out).mono ?_
   rintro e w2 hgr
   rcases hgr with ⟨xs, h1, a4, c4, rfl, hcl4, hnew4, hf2⟩ | ⟨h1, rfl, hf2⟩
   ·have hge : mget (mtab M t) k = some xs := by rw [← HGet.out]; exact h1
    have hln := mget_len hg hge
    have HGE := Lib.hid hge
    clear HGet h1 hge
    have HF2 : Hid (Fr w w2 Nil) := HFn.out.trans0 hf2
    have HDO : Hid (DOk w2 ⟨who, t, k, (.slice a4 xs.length c4), xs, true⟩) := ⟨hcl4, hln⟩
    have HDN : Hid (∀ j, ((.slice a4 xs.length c4) : Value).ownBlock = some j → w.heap.size ≤ j ∧ j < w2.heap.size) := fun j hj => ⟨hnew4 j hj, hcl4.lt j hj⟩
    have hroot := HG.out.root.fr HF2.out fun h => h
    have q1 := hroot.cell 1
    have f1 := (hroot.alloc (.cells #[.int .i64 who, .int .i64 t, .int .i64 k, (.slice a4 xs.length c4), .bool true] 176)).free 1
    have ho0 := HG.out.own
    have HOWN := Lib.hid (Fr.own (HF2.out.alloc (.cells #[.int .i64 who, .int .i64 t, .int .i64 k, (.slice a4 xs.length c4), .bool true] 176)) ho0 fun _ _ h => h)
    have HSL := Lib.hid (sl_dent w2 176 ⟨who, t, k, (.slice a4 xs.length c4), xs, true⟩)
    have HONE : Hid (∀ u ∈ dvals [⟨who, t, k, (.slice a4 xs.length c4), xs, true⟩], u.oneCell' = true) := dvals_one fun e he => by rw [List.mem_singleton.1 he]; rfl
    simp only [List.getElem?_cons_zero, List.getElem?_cons_succ] at q1
    clear hf2 ho0 hroot HFn
    go_wp2_with (at_builtin; refine wpList_app _ rfl _ _ _ rfl slD (.slice a g.length c) rfl HOWN.out _ rfl HSL.out HONE.out (by omega) ?_; intro a3 c3 w3 ho hg3 hat; have hroot3 := ((HG.out.root.fr HF2.out fun h => h).alloc (.cells #[.int .i64 who, .int .i64 t, .int .i64 k, (.slice a4 xs.length c4), .bool true] 176)).fr (S := fun j => (Value.slice a g.length c).ownBlock = some j) ((Fr.refl _ _).grown hg3 fun j hj _ => hj) (fun h => HG.out.neL _ h rfl); have q2 := hroot3.cell 1; have f2 := hroot3.free 1)
    go_ret
    rw [HD.out.1, HD.out.2]
    refine ⟨rfl, ?_⟩
    have hfin := dnote_done ⟨who, t, k, (.slice a4 xs.length c4), xs, true⟩ HG.out (HF2.out.alloc (.cells #[.int .i64 who, .int .i64 t, .int .i64 k, (.slice a4 xs.length c4), .bool true] 176)) (HDO.out.fr ((Fr.refl w2 Nil).alloc _) fun _ _ h => h) (fun j hj => ⟨(HDN.out j hj).1, by have := (HDN.out j hj).2; simp; omega⟩) ho hg3 hat
    rw [show (who, entOf M t k) = (⟨who, t, k, (.slice a4 xs.length c4), xs, true⟩ : DEnt).mod by unfold entOf; rw [HGE.out]; rfl]
    exact hfin
   ·have hge : mget (mtab M t) k = none := by rw [← HGet.out]; exact h1
    have HGE := Lib.hid hge
    clear HGet h1 hge
    have HF2 : Hid (Fr w w2 Nil) := HFn.out.trans0 hf2
    have HDO : Hid (DOk w2 ⟨who, t, k, (.slice none 0 0), [], false⟩) := ⟨World.ownsRow_nil _ _ _ _, by simp⟩
    have HDN : Hid (∀ j, ((.slice none 0 0) : Value).ownBlock = some j → w.heap.size ≤ j ∧ j < w2.heap.size) := fun j hj => by cases hj
    have hroot := HG.out.root.fr HF2.out fun h => h
    have q1 := hroot.cell 1
    have f1 := (hroot.alloc (.cells #[.int .i64 who, .int .i64 t, .int .i64 k, (.slice none 0 0), .bool false] 176)).free 1
    have ho0 := HG.out.own
    have HOWN := Lib.hid (Fr.own (HF2.out.alloc (.cells #[.int .i64 who, .int .i64 t, .int .i64 k, (.slice none 0 0), .bool false] 176)) ho0 fun _ _ h => h)
    have HSL := Lib.hid (sl_dent w2 176 ⟨who, t, k, (.slice none 0 0), [], false⟩)
    have HONE : Hid (∀ u ∈ dvals [⟨who, t, k, (.slice none 0 0), [], false⟩], u.oneCell' = true) := dvals_one fun e he => by rw [List.mem_singleton.1 he]; rfl
    simp only [List.getElem?_cons_zero, List.getElem?_cons_succ] at q1
    clear hf2 ho0 hroot HFn
    go_wp2_with (at_builtin; refine wpList_app _ rfl _ _ _ rfl slD (.slice a g.length c) rfl HOWN.out _ rfl HSL.out HONE.out (by omega) ?_; intro a3 c3 w3 ho hg3 hat; have hroot3 := ((HG.out.root.fr HF2.out fun h => h).alloc (.cells #[.int .i64 who, .int .i64 t, .int .i64 k, (.slice none 0 0), .bool false] 176)).fr (S := fun j => (Value.slice a g.length c).ownBlock = some j) ((Fr.refl _ _).grown hg3 fun j hj _ => hj) (fun h => HG.out.neL _ h rfl); have q2 := hroot3.cell 1; have f2 := hroot3.free 1)
    go_ret
    rw [HD.out.1, HD.out.2]
    refine ⟨rfl, ?_⟩
    have hfin := dnote_done ⟨who, t, k, (.slice none 0 0), [], false⟩ HG.out (HF2.out.alloc (.cells #[.int .i64 who, .int .i64 t, .int .i64 k, (.slice none 0 0), .bool false] 176)) (HDO.out.fr ((Fr.refl w2 Nil).alloc _) fun _ _ h => h) (fun j hj => ⟨(HDN.out j hj).1, by have := (HDN.out j hj).2; simp; omega⟩) ho hg3 hat
    rw [show (who, entOf M t k) = (⟨who, t, k, (.slice none 0 0), [], false⟩ : DEnt).mod by unfold entOf; rw [HGE.out]; rfl]
    exact hfin
end Go.Proofs.YtgpekgnhbccnoaaGreat
namespace Go.Proofs.YtgpekgnhbccnoaaGreat
open Go Go.RowKit

end Go.Proofs.YtgpekgnhbccnoaaGreat
