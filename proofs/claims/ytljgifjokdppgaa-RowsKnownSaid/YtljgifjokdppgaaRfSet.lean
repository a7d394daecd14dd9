/-
  The document's rows: walks of Set, Sum.
  No condition but sizes.
-/
import Derived.Test.YtljgifjokdppgaaRfPut
namespace Go.Proofs.Ytljgifjokdppgaa
open Go Go.RowKit

def qset (N : List Int) (L : List QR) (t k c x : Int) : List QR × Bool × Bool :=
  if 0 ≤ c ∧ c < qcols N t then (match qget L t k with
    | none => (L, false, true)
    | some xs => (qput N L t k (xs.set c.toNat x), qmay N t (xs.set c.toNat x), true)) else (L, false, false)

theorem OwnInts.store {w : World} {e : TypeId} {b n cap : Nat} {xs : List Int} (h : OwnInts w e (.slice (some ⟨b, 0, none⟩) n cap) xs) (hn : n = xs.length) (c : Nat) (hc : c < xs.length) (x : Int) :
    IntsAt (w.setCell ⟨b, c, none⟩ (.int .i64 x)) (.slice (some ⟨b, 0, none⟩) n cap) (xs.set c x) := by
  subst hn
  refine .inr ⟨⟨b, 0, none⟩, cap, by rw [List.length_set], fun j u hu => ?_⟩
  rw [Addr.add_lit, Nat.zero_add]
  rw [List.getElem?_map, List.getElem?_set] at hu
  have hcell := h.cell rfl
  by_cases hj : c = j
  · subst hj
    rw [if_pos rfl, if_pos hc] at hu
    have hex := hcell c hc
    simp only [Option.map_some, Option.some.injEq] at hu
    rw [World.cell?_setCell_same w ⟨b, c, none⟩ _ hex, hu]
  · rw [if_neg hj] at hu
    rw [World.cell?_setCell_other _ _ _ _ (by intro e; cases e; exact hj rfl)]
    have hjl : j < xs.length := by
      rcases Nat.lt_or_ge j xs.length with h | h
      · exact h
      · rw [List.getElem?_eq_none h] at hu; cases hu
    rw [hcell j hjl]
    rw [List.getElem?_eq_getElem hjl] at hu
    simp only [Option.map_some, Option.some.injEq] at hu
    rw [← hu]
    simp [List.getD, hjl]

set_option maxRecDepth 100000 in
set_option maxHeartbeats 1000000 in
theorem rset_any {rb : Nat} {N : List Int} {L : List QR} {S : Nat → Prop} (t k c x : Int) (w : World) (h : RefAt w rb N L S) (hq : QOk N L) (hwd : ∀ xs, qget L t k = some xs → (xs.length : Int) = qcols N t) :
    Calls Try.prog 36 #[.pointer (some ⟨rb, 0, none⟩), .int .i64 t, .int .i64 k, .int .i64 c, .int .i64 x] w fun e w' =>
      e = .returned (.tuple #[.bool (qset N L t k c x).2.1, .bool (qset N L t k c x).2.2]) ∧ RefUpd w rb N (qset N L t k c x).1 S w' := by
  have H := Lib.hid h
  have Hq := Lib.hid hq
  have Hwd := Lib.hid hwd
  have hN : N.length ≤ 1000000 := by have := hq.n; omega
  clear h hq hwd
  by_cases hc0 : c < 0
  · have HS : Hid (qset N L t k c x = (L, false, false)) := by
      have : qset N L t k c x = (L, false, false) := by unfold qset; rw [if_neg (by omega)]
      exact this
    go_enter Try.func36, Try.ntmps36
    go_wp2_with fail
    go_ret2
    rw [HS.out]
    exact ⟨rfl, RefUpd.same H.out (Fr.refl _ _)⟩
  · by_cases hc1 : qcols N t ≤ c
    · have HS : Hid (qset N L t k c x = (L, false, false)) := by
        have : qset N L t k c x = (L, false, false) := by unfold qset; rw [if_neg (by omega)]
        exact this
      have hc2 : 0 ≤ c := by omega
      clear hc0
      go_enter Try.func36, Try.ntmps36
      go_wp2_with (go_at_call 44; refine (rcols_any t _ H.out hN).mono ?_; rintro e w' ⟨rfl, rfl⟩)
      go_ret2
      rw [HS.out]
      exact ⟨rfl, RefUpd.same H.out (Fr.refl _ _)⟩
    · obtain ⟨ci, rfl⟩ := Int.eq_ofNat_of_zero_le (show 0 ≤ c by omega)
      have hlt : (ci : Int) < qcols N t := by omega
      have f1 : decide (qcols N t ≤ (ci : Int)) = false := by rw [decide_eq_false_iff_not]; omega
      have HD : Hid (qset N L t k ci x = match qget L t k with
        | none => (L, false, true)
        | some xs => (qput N L t k (xs.set ci x), qmay N t (xs.set ci x), true)) := by
        have : qset N L t k ci x = match qget L t k with
          | none => (L, false, true)
          | some xs => (qput N L t k (xs.set ci x), qmay N t (xs.set ci x), true) := by
          unfold qset
          rw [if_pos ⟨by omega, hlt⟩]
          rfl
        exact this
      have Hlt := Lib.hid hlt
      clear hc0 hc1 hlt
      go_enter Try.func36, Try.ntmps36
      go_wp2_with (go_at_call 44; refine (rcols_any t _ H.out hN).mono ?_; rintro e w' ⟨rfl, rfl⟩)
      refine (rget_any t k _ H.out Hq.out).mono ?_
      rintro e w2 hget
      rcases hget with ⟨xs, hm, a5, c5, rfl, hcl⟩ | ⟨hm, rfl, hf⟩
      · have HS : Hid (qset N L t k ci x = (qput N L t k (xs.set ci x), qmay N t (xs.set ci x), true)) := by
          have := HD.out
          rw [hm] at this
          exact this
        have hwd := Hwd.out xs hm
        have hcx : ci < xs.length := by have := Hlt.out; omega
        have hxl : xs.length ≤ 1000000 := by
          have hm2 := hm
          unfold qget at hm2
          rw [Option.map_eq_some_iff] at hm2
          obtain ⟨r, hr, rfl⟩ := hm2
          exact Hq.out.cols r (List.mem_of_find?_eq_some hr)
        obtain ⟨b, cap, hv, _⟩ := hcl.1.form (by omega)
        simp only [Value.slice.injEq, true_and] at hv
        obtain ⟨rfl, rfl⟩ := hv
        have p0 := hcl.1.cell rfl ci hcx
        have p1 := hcl.1.free rfl ci
        have hb : w.heap.size ≤ b := hcl.2.1 b rfl
        have hci : (ci : Int) < (xs.length : Int) := by omega
        have HST : Hid (IntsAt (w2.setCell ⟨b, ci, none⟩ (.int .i64 x)) (.slice (some ⟨b, 0, none⟩) xs.length c5) (xs.set ci x)) := hcl.1.store rfl ci hcx x
        have HF2 : Hid (Fr w (w2.setCell ⟨b, ci, none⟩ (.int .i64 x)) Nil) := hcl.2.2.setCell (fun hlt => by have : b < w.heap.size := hlt; omega) _
        have Hb := Lib.hid hb
        clear hcl hwd hm
        go_wp2_with fail
        refine (rput_any t k _ (xs.set ci x) _ (H.out.fr0 HF2.out) Hq.out HST.out (fun _ j hj => ?_) (by rw [List.length_set]; exact hxl)).mono ?_
        · cases hj
          have := H.out.lt rb (by obtain ⟨nv, lv, g, h, _⟩ := H.out; exact h.inR)
          have := Hb.out
          show b ≠ rb
          omega
        rintro e w3 ⟨rfl, hu⟩
        have HU : Hid (RefUpd w rb N (qput N L t k (xs.set ci x)) S w3) := by
          obtain ⟨⟨nv, lv, g, h1, h2⟩, h3⟩ := hu
          have sz : (w2.setCell ⟨b, ci, none⟩ (.int .i64 x)).heap.size = w2.heap.size := World.size_setCell _ _ _
          have s2 := HF2.out.size
          have hG : ∀ j, Gr S (w2.setCell ⟨b, ci, none⟩ (.int .i64 x)) w3 j → Gr S w w3 j := fun j hj => hj.imp id fun h => ⟨by omega, h.2⟩
          exact ⟨⟨nv, lv, g, ⟨h1.root, h1.n, h1.l, h1.cap, hG _ h1.inR, fun j hj => ⟨hG _ (h1.inN j hj).1, (h1.inN j hj).2⟩, fun j hj => ⟨hG _ (h1.inL j hj).1, (h1.inL j hj).2⟩, fun r hr j hj => ⟨hG _ (h1.inC r hr j hj).1, (h1.inC r hr j hj).2⟩, fun j hj => hj.elim (fun hj => Nat.lt_of_lt_of_le (H.out.lt j hj) (Nat.le_trans s2 h3.size)) (·.2)⟩, h2⟩, HF2.out.of_nil.transS h3⟩
        clear hu
        go_wp2_with fail
        go_ret2
        rw [HS.out]
        exact ⟨rfl, HU.out⟩
      · have HS : Hid (qset N L t k ci x = (L, false, true)) := by
          have := HD.out
          rw [hm] at this
          exact this
        have Hf := Lib.hid hf
        clear hf hm
        go_wp2_with fail
        go_ret2
        rw [HS.out]
        exact ⟨rfl, RefUpd.same H.out Hf.out⟩

/-- The sum of the first i rows' values. -/
def qsumTo (L : List QR) (t c : Int) : Nat → Int
  | 0 => 0
  | i + 1 => match L[i]? with
    | some r => if r.1 = t ∧ 0 ≤ c ∧ c < (r.2.2.length : Int) then wrap64 (qsumTo L t c i + r.2.2.getD c.toNat 0) else qsumTo L t c i
    | none => qsumTo L t c i
def qsum (L : List QR) (t c : Int) : Int := qsumTo L t c L.length
end Go.Proofs.Ytljgifjokdppgaa
