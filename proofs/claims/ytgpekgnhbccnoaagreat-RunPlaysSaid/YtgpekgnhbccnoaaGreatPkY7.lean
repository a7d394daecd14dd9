/-
 Walks of the leaves of package rows: cmp.Compare, slices.Clone, (Row).clone.
 No condition but sizes.
-/
import Derived.Test.YtgpekgnhbccnoaaGreatPkY1
import Derived.Test.YtgpekgnhbccnoaaGreatProg
import Derived.Deep.RegionHeld3
import Derived.Deep.DrawnRows
namespace Go.Proofs.YtgpekgnhbccnoaaGreat
open Go Go.RowKit
attribute [local go_sem ↓] Go.wp_at_zero Go.wp_at_succ

def cmpZ (a b : Int) : Int := if a < b then -1 else if b < a then 1 else 0

set_option maxHeartbeats 400000 in
theorem isNaN_any (a : Int) (w : World) :
  Calls Tryz.prog 125 #[.int .i64 a] w fun e w' => e = .returned (.bool false) ∧ w = w' := by
 go_enter Tryz.func125, Tryz.ntmps125
 go_wp2
 go_ret
 exact ⟨rfl, rfl⟩

set_option maxHeartbeats 400000 in
theorem cmp_any (a b : Int) (w : World) :
  Calls Tryz.prog 104 #[.int .i64 a, .int .i64 b] w fun e w' => e = .returned (.int .i64 (cmpZ a b)) ∧ w = w' := by
 go_enter Tryz.func104, Tryz.ntmps104
 go_wp2_with (go_at_call 125; refine (isNaN_any _ _).mono ?_; rintro e w' ⟨rfl, rfl⟩)
 all_goals
  go_ret
  refine ⟨?_, rfl⟩
  simp only [Array.getD_eq_getD_getElem?, List.getElem?_toArray, List.getElem?_cons_succ, List.getElem?_cons_zero, Option.getD_some, cmpZ]
  first | rw [if_pos (by assumption)] | rw [if_neg (by omega), if_pos (by assumption)] | rw [if_neg (by omega), if_neg (by omega)]

theorem Tryz.infoI : (Tryz.prog.info? 2).map (fun i => (i.zero, i.size, i.bytes)) = some (some (.int .i64 0), 1, 8) := by kernel_rfl

/-- slices.Clone of what reads as integers: a row of its own, in a new block. -/
def Cloned (xs : List Int) (w : World) (v : Value) (w' : World) : Prop := OwnInts w' 2 v xs ∧ NewFrom w.heap.size v ∧ Fr w w' Nil

set_option maxHeartbeats 400000 in
theorem clone_any (v : Value) (xs : List Int) (w : World) (h : IntsAt w v xs) (hl : xs.length ≤ 1000000) :
  Calls Tryz.prog 47 #[v] w (RetSl xs.length (Cloned xs w)) := by
 obtain ⟨i0, hi, hz0, hz1, hz2⟩ := info_parts Tryz.infoI
 rcases h with ⟨rfl, rfl⟩ | ⟨a, cap, rfl, hc⟩
 ·have e0 := fun (w : World) => Lib.run_eql_slice_nil (P := Tryz.prog) w 24 2 none 0 0 0 0 Tryz.underlying24
  go_enter Tryz.func47, Tryz.ntmps47
  go_wp2_with fail
  go_ret
  exact ⟨none, 0, rfl, World.ownsRow_nil _ _ _ _, fun k hk => by simp [Value.ownBlock] at hk, Fr.refl _ _⟩
 ·have Hc := Lib.hid hc
  clear hc
  have e0 := fun (w : World) => Lib.run_eql_slice_nil (P := Tryz.prog) w 24 2 (some a) xs.length cap 0 0 Tryz.underlying24
  go_enter Tryz.func47, Tryz.ntmps47
  go_wp2_with (at_builtin; refine wpList_append_own _ rfl _ _ 24 rfl w.heap.size 2 i0 (.int .i64 0) 1 8 Tryz.underlying24 hi hz0 hz1 hz2 rfl (by decide) _ 0 [] rfl (World.ownsRow_made _ #[] 0 (Nat.le_refl _) (by decide) rfl) a xs.length cap (xs.map (.int .i64)) rfl ?c1 ?c2 ?c3 ?c4 ?c5 ?c6 ?_)
  case c1 => simp
  case c2 => exact fun j u hu => ((Fr.refl w Nil).alloc _).cell (Hc.out j u hu) (fun h => h)
  case c3 => exact ints_oneCell _ _
  case c4 => unfold maxLen; omega
  case c5 => omega
  case c6 => simp
  intro v' w' ho hg _
  have Ho := Lib.hid ho
  have Hg := Lib.hid hg
  clear ho hg
  go_wp2
  go_ret
  have Hos : ∃ a c, v' = .slice a xs.length c := OwnInts.shape (own_mono Ho.out (Nat.zero_le _))
  obtain ⟨a', c', rfl⟩ := Hos
  refine ⟨a', c', rfl, own_mono Ho.out (Nat.zero_le _), fun k hk => (World.ownsRow.lt Ho.out k hk).1, ?_⟩
  refine ((Fr.refl w Nil).alloc _).grown Hg.out ?_
  intro k hk hlt
  simp [Value.ownBlock] at hk
  omega

/-- (Row).clone: the key, and a row of its own. -/
def RowCloned (k : Int) (xs : List Int) (w : World) (e : Ending) (w' : World) : Prop := ∃ a cap, e = .returned (.agg #[.int .i64 k, .slice a xs.length cap]) ∧ Cloned xs w (.slice a xs.length cap) w'

set_option maxHeartbeats 400000 in
theorem rowclone_any (k : Int) (v : Value) (xs : List Int) (w : World) (h : IntsAt w v xs) (hl : xs.length ≤ 1000000) :
  Calls Tryz.prog 75 #[.agg #[.int .i64 k, v]] w (RowCloned k xs w) := by
 obtain ⟨a, cap, rfl⟩ := h.shape
 have H := Lib.hid h
 clear h
 go_enter Tryz.func75, Tryz.ntmps75
 go_wp2_with fail
 go_region_held3 (fun w' => w'.cell? ⟨w.heap.size, 0, none⟩ = some (.int .i64 k) ∧ w'.cell? ⟨w.heap.size, 1, none⟩ = some (.slice a xs.length cap))
  (first | go_keep | (refine ⟨hfr.cell ?_ (fun h => h), hfr.cell ?_ (fun h => h)⟩ <;> go_simp))
  (first | (go_at_call 47; refine (clone_any _ xs _ ?_ hl).mono ?_; exact H.out.fr (((Fr.refl w Nil).alloc _).alloc _).drew (fun _ _ h => h); rintro e w' ⟨a', cap', rfl, ho, hn, hfr⟩; have hb := (Bk.new (w.alloc (Obj.cells #[Value.int IntKind.i64 k, Value.slice a xs.length cap] 128)) 128 #[Value.int IntKind.i64 0, Value.slice none 0 0]).fr (((Fr.refl _ Nil).drew).trans0 hfr) (fun h => h); have q0 := hb.cell 0; have q1 := hb.cell 1; have q2 := hb.free 0; have q3 := hb.free 1; simp only [World.size_alloc] at q0 q1 q2 q3; clear hb))
 have hs : w.heap.size + 1 < w'.heap.size := by have := hfr.size; simp at this; omega
 go_wp2
 refine bodyPost_ret (v := .agg #[.int .i64 k, .slice a' xs.length cap']) (by simp [results, Tryz.results75, go_sem, q0, q1]) rfl ⟨a', cap', rfl, ?_, ?_, ?_⟩
 ·refine ho.fr (((Fr.refl _ (fun k => k = w.heap.size + 1)).setCell (fun _ => rfl) _).setCell (fun _ => rfl) _) ?_
  intro k' hk' e
  have := hn k' hk'
  simp at this; omega
 ·intro k' hk'
  have := hn k' hk'
  simp at this; omega
 ·have h1 := ((((Fr.refl w Nil).alloc (Obj.cells #[Value.int IntKind.i64 k, Value.slice a xs.length cap] 128)).alloc (Obj.cells #[Value.int IntKind.i64 0, Value.slice none 0 0] 128)).drew).trans0 hfr
  exact (h1.setCell (fun h => by simp at h; omega) _).setCell (fun h => by simp at h; omega) _
end Go.Proofs.YtgpekgnhbccnoaaGreat
