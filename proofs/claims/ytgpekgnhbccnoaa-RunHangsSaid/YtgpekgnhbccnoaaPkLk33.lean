/-
  The document's rows: walks of Set, Sum.
  The document's rows: walks of Sum, All.
  The document's rows: walk of New.
-/
import Derived.Test.YtgpekgnhbccnoaaPkLk13
import Derived.Deep.RegionLawGrows
import Derived.Deep.AppendLies
namespace Go.Proofs.Ytgpekgnhbccnoaa
open Go Go.RowKit

def qset (N : List Int) (L : List QR) (t k c x : Int) : List QR × Bool × Bool :=
  if 0 ≤ c ∧ c < qcols N t then (match qget L t k with
    | none => (L, false, true)
    | some xs => (qput N L t k (xs.set c.toNat x), qmay N t (xs.set c.toNat x), true)) else (L, false, false)

theorem OwnInts.store {w : World} {e : TypeId} {b n cap : Nat} {xs : List Int} (h : OwnInts w e (.slice (some ⟨b, 0, none⟩) n cap) xs) (hn : n = xs.length) (c : Nat) (hc : c < xs.length) (x : Int) :
    IntsAt (w.setCell ⟨b, c, none⟩ (.int .i64 x)) (.slice (some ⟨b, 0, none⟩) n cap) (xs.set c x) := by
  subst hn
  refine .inr ⟨⟨b, 0, none⟩, cap, by rw [List.length_set], fun j u hu => ?_⟩
  rw [Addr.add_lit, Nat.zero_add]
  rw [List.getElem?_map, List.getElem?_set] at hu
  have hcell := h.cell rfl
  by_cases hj : c = j
  · subst hj
    rw [if_pos rfl, if_pos hc] at hu
    have hex := hcell c hc
    simp only [Option.map_some, Option.some.injEq] at hu
    rw [World.cell?_setCell_same w ⟨b, c, none⟩ _ hex, hu]
  · rw [if_neg hj] at hu
    rw [World.cell?_setCell_other _ _ _ _ (by intro e; cases e; exact hj rfl)]
    have hjl : j < xs.length := by
      rcases Nat.lt_or_ge j xs.length with h | h
      · exact h
      · rw [List.getElem?_eq_none h] at hu; cases hu
    rw [hcell j hjl]
    rw [List.getElem?_eq_getElem hjl] at hu
    simp only [Option.map_some, Option.some.injEq] at hu
    rw [← hu]
    simp [List.getD, hjl]

/-- The sum of the first i rows' values. -/
def qsumTo (L : List QR) (t c : Int) : Nat → Int
  | 0 => 0
  | i + 1 => match L[i]? with
    | some r => if r.1 = t ∧ 0 ≤ c ∧ c < (r.2.2.length : Int) then wrap64 (qsumTo L t c i + r.2.2.getD c.toNat 0) else qsumTo L t c i
    | none => qsumTo L t c i
def qsum (L : List QR) (t c : Int) : Int := qsumTo L t c L.length
end Go.Proofs.Ytgpekgnhbccnoaa
namespace Go.Proofs.Ytgpekgnhbccnoaa
open Go Go.RowKit

theorem qsumTo_next {L : List QR} {t c : Int} {i : Nat} {r : QR} (h : L[i]? = some r) : qsumTo L t c (i + 1) = if r.1 = t ∧ 0 ≤ c ∧ c < (r.2.2.length : Int) then wrap64 (qsumTo L t c i + r.2.2.getD c.toNat 0) else qsumTo L t c i := by
  show (match L[i]? with | some r => _ | none => _) = _
  rw [h]

def qall (L : List QR) (t : Int) : List QR := L.filter fun r => r.1 == t
/-- Some of a row of rows, by a new row that shares their values. -/
structure QSub (w w' : World) (lv : Value) (g g0 : List QRow) : Prop where
  l : QL w' lv g
  new : ∀ k, lv.ownBlock = some k → w.heap.size ≤ k ∧ k < w'.heap.size
  sub : ∀ r ∈ g, r ∈ g0
  fr : Fr w w' Nil
theorem qall_next {L : List QR} {t : Int} {i : Nat} {r : QR} (h : L[i]? = some r) : qall (L.take (i + 1)) t = qall (L.take i) t ++ if r.1 == t then [r] else [] := by
  unfold qall
  rw [List.take_add_one, h, List.filter_append]
  congr 1
  simp only [Option.toList_some, List.filter_cons, List.filter_nil]
def QAllRet (g0 : List QRow) (M : List QR) (w : World) (e : Ending) (w' : World) : Prop :=
  ∃ a cap g', e = .returned (.slice a g'.length cap) ∧ QSub w w' (.slice a g'.length cap) g' g0 ∧ qrows g' = M

end Go.Proofs.Ytgpekgnhbccnoaa
namespace Go.Proofs.Ytgpekgnhbccnoaa
open Go Go.RowKit
attribute [local go_sem ↓] Go.wp_at_zero Go.wp_at_succ

def colOk (l : List Int) : Prop := l.length ≤ 64 ∧ ∀ n ∈ l, 1 ≤ n ∧ n ≤ 16
def RNewRet (cols : List Int) (w : World) (e : Ending) (w' : World) : Prop :=
  (colOk cols ∧ ∃ rb S, e = .returned (.tuple #[.pointer (some ⟨rb, 0, none⟩), .bool true]) ∧ RefAt w' rb cols [] S ∧ (∀ k, S k → w.heap.size ≤ k) ∧ Fr w w' Nil) ∨
  (¬ colOk cols ∧ e = .returned (.tuple #[.pointer none, .bool false]) ∧ Fr w w' Nil)

set_option maxRecDepth 100000 in
set_option maxHeartbeats 1000000 in
theorem rnew_any (v : Value) (cols : List Int) (w : World) (hv : IntsAt w v cols) (hl : cols.length ≤ 9223372036854775807) :
    Calls Try.prog 28 #[v] w (RNewRet cols w) := by
  obtain ⟨av, capv, rfl⟩ := hv.shape
  have Hv := Lib.hid hv
  clear hv
  go_enter Try.func28, Try.ntmps28
  go_wp2_with fail
  go_loopw [5] (fun vi wr => ∃ (i : Nat) (a : Option Addr) (c : Nat), i ≤ cols.length ∧ i ≤ 64 ∧ vi = .int .i64 i ∧ Bk wr w.heap.size 112 [.slice a i c, .slice none 0 0] ∧ wr.ownsRow 0 3 1 (.slice a i c) i ((cols.take i).map (Value.int .i64)) ∧ (∀ k, (Value.slice a i c).ownBlock = some k → w.heap.size < k) ∧ (∀ n ∈ cols.take i, 1 ≤ n ∧ n ≤ 16) ∧ Fr w wr Nil)
    (fun vi _ => cols.length - (intOf vi).toNat)
  case atStart => exact ⟨0, none, 0, by omega, by omega, rfl, Bk.new _ _ _, World.ownsRow_nil _ _ _ _, (fun k hk => by simp [Value.ownBlock] at hk), by simp, (Fr.refl _ _).alloc _⟩
  case round =>
    obtain ⟨i, a, c, hi, h64, rfl, hb, ho, hnew, hall, hf⟩ := hrel
    have Hb := Lib.hid hb
    have Ho := Lib.hid ho
    have Hnew := Lib.hid hnew
    have Hall := Lib.hid hall
    have Hf := Lib.hid hf
    clear hb ho hnew hall hf
    by_cases hlt : i < cols.length
    · by_cases hi64 : i < 64
      · obtain ⟨b, off, cap2, hvf, hc⟩ := Hv.out.form (by omega)
        simp only [Value.slice.injEq, true_and] at hvf
        obtain ⟨rfl, rfl⟩ := hvf
        have hn := List.getElem?_eq_getElem hlt
        generalize cols[i] = n at hn
        have p0 := Hf.out.cell (hc i n hn) fun h => h
        have Hn := Lib.hid hn
        have hlt2 : (i : Int) < (cols.length : Int) := by omega
        have g64 : decide (64 ≤ i) = false := by rw [decide_eq_false_iff_not]; omega
        clear hc hn
        by_cases hr : 1 ≤ n ∧ n ≤ 16
        · obtain ⟨hr1, hr2⟩ := hr
          have g1 : decide (n < 1) = false := by rw [decide_eq_false_iff_not]; omega
          have g2 : decide (16 < n) = false := by rw [decide_eq_false_iff_not]; omega
          have q0 := Hb.out.cell 0
          have z0 := fun o => ((Fr.refl wr Nil).alloc o).cell q0 (fun h => h)
          have HB1 := Lib.hid (Bk.new wr.drew 3 #[Value.int .i64 n])
          have HO3 : Hid (∀ u ∈ [Value.int .i64 n], u.oneCell' = true) := by
            intro u hu
            simp only [List.mem_singleton] at hu
            subst hu; rfl
          have HBd := Lib.hid ((Hb.out.fr ((Fr.refl wr Nil).drew) (fun h => h)).alloc (Obj.cells #[Value.int .i64 n] 3))
          have HNE : Hid (∀ j, (Value.slice a i c).ownBlock = some j → j ≠ w.heap.size) := fun j hj e => by have := Hnew.out j hj; omega
          have hin : i + 1 ≤ 1000000 := by omega
          go_wp2_with fail
          go_region_law (first
            | (refine step_app _ (by rfl) _ _ _ (by rfl) slN (.slice a i c) (by rfl) (((Fr.refl wr Nil).drew.alloc _).own Ho.out (fun _ _ h => h)) (.slice (some ⟨wr.heap.size, 0, none⟩) 1 1) (by rfl) (SlAt.of_block HB1.out) HO3.out hin ?_
               intro a2 c2 w2 ho2 hg2 hat2
               have hB2 := HBd.out.fr ((Fr.refl _ (fun j => (Value.slice a i c).ownBlock = some j)).grown hg2 fun j hj _ => hj) (fun h => HNE.out _ h rfl)
               have y0 := hB2.cell 0
               have y1 := hB2.free 0))
          all_goals
            have Ho2 := Lib.hid ho2
            have Hat2 := Lib.hid hat2
            have Hg2 := Lib.hid hg2
            have HB2 := Lib.hid hB2
            clear ho2 hat2 hg2 hB2 y0 y1 q0 z0
            go_wp2_with fail
            refine ⟨⟨i + 1, a2, c2, by omega, by omega, by go_num, (HB2.out.set 0 _), ?_, ?_, ?_, ?_⟩, by simp [intOf]; omega⟩
            · have h1 : (cols.take (i + 1)).map (Value.int .i64) = (cols.take i).map (Value.int .i64) ++ [Value.int .i64 n] := by
                rw [List.take_add_one, Hn.out]; simp
              rw [h1]
              refine (Fr.store _ w.heap.size 0 _).own Ho2.out fun j hj e => ?_
              have e' : j = w.heap.size := e
              rcases Hat2.out with h | h
              · rw [h] at hj; exact HNE.out j hj e'
              · rw [h] at hj
                cases hj
                have := Hf.out.size
                have := Hb.out.lt
                simp at e'
                omega
            · intro j hj
              rcases Hat2.out with h | h
              · rw [h] at hj; exact Hnew.out j hj
              · rw [h] at hj
                cases hj
                have := Hb.out.lt
                simp
                omega
            · intro m hm
              rw [List.take_add_one, Hn.out] at hm
              simp only [Option.toList_some, List.mem_append, List.mem_singleton] at hm
              rcases hm with hm | rfl
              · exact Hall.out m hm
              · exact ⟨hr1, hr2⟩
            · refine ((Hf.out.drew.alloc _).grown Hg2.out fun j hj hlt => ?_).setCell (fun hlt => ?_) _
              · have := Hnew.out j hj; omega
              · have h2 : w.heap.size < w.heap.size := hlt
                omega
        · have hbad : Hid (¬ colOk cols) := fun h => hr (h.2 n (List.mem_of_getElem? Hn.out))
          by_cases hr1 : n < 1
          · have g1 : decide (n < 1) = true := decide_eq_true hr1
            clear hr hr1
            go_wp2_with fail
            go_ret2
            exact .inr ⟨hbad.out, rfl, Hf.out⟩
          · have g1 : decide (n < 1) = false := decide_eq_false hr1
            have g2 : decide (16 < n) = true := decide_eq_true (by omega)
            clear hr hr1
            go_wp2_with fail
            go_ret2
            exact .inr ⟨hbad.out, rfl, Hf.out⟩
      · have hbad : Hid (¬ colOk cols) := fun h => by have := h.1; omega
        have g64 : 64 ≤ i := by omega
        go_wp2_with fail
        go_ret2
        exact .inr ⟨hbad.out, rfl, Hf.out⟩
    · have hok : Hid (colOk cols) := ⟨by omega, fun n hn => Hall.out n (by rw [List.take_of_length_le (by omega)]; exact hn)⟩
      have hil : i = cols.length := by omega
      have Hil := Lib.hid hil
      clear hil
      go_wp2_with fail
      go_ret2
      refine .inl ⟨hok.out, w.heap.size, fun k => w.heap.size ≤ k ∧ k < wr.heap.size, rfl, ⟨_, _, [], ⟨Hb.out, ?_, ⟨SlAt.nil _ _, fun r hr => by cases hr⟩, (fun a n c e => by cases e; exact Nat.le_refl _), ⟨Nat.le_refl _, Hb.out.lt⟩, fun k hk => ⟨⟨Nat.le_of_lt (Hnew.out k hk), (World.ownsRow.lt Ho.out k hk).2⟩, fun e => by have := Hnew.out k hk; omega⟩, (fun k hk => by simp [Value.ownBlock] at hk), (fun r hr => by cases hr), fun k hk => hk.2⟩, rfl⟩, fun k hk => hk.1, Hf.out⟩
      have h1 := (SlAt.of_own Ho.out).1
      have hil := Hil.out
      subst hil
      rw [List.take_of_length_le (Nat.le_refl _)] at h1
      exact h1.ints
end Go.Proofs.Ytgpekgnhbccnoaa
