/-
 The document's rows (interlockref13): how they lie; walks of Cols, at, Get.
 No condition but sizes.
-/
import Derived.Test.YtgpekgnhbccnoaaGreatPkY4
import Derived.Test.YtgpekgnhbccnoaaGreatPkY7
namespace Go.Proofs.YtgpekgnhbccnoaaGreat
open Go Go.RowKit
attribute [local go_sem ↓] Go.wp_at_zero Go.wp_at_succ

/-- A row of the document's: its table, its key, its values (as they lie; as they read). -/
structure QRow where
 table : Int
 key : Int
 cv : Value
 cols : List Int
abbrev QR := Int × Int × List Int
def QRow.mod (r : QRow) : QR := (r.table, r.key, r.cols)
def qrows (g : List QRow) : List QR := g.map QRow.mod
def flatQ (g : List QRow) : List Value := g.flatMap fun r => [.int .i64 r.table, .int .i64 r.key, r.cv]
theorem flatQ_append (a b : List QRow) : flatQ (a ++ b) = flatQ a ++ flatQ b := by simp [flatQ]
theorem flatQ_take (g : List QRow) (k : Nat) : (flatQ g).take (k * 3) = flatQ (g.take k) := by
 induction g generalizing k with
 | nil => simp [flatQ]
 | cons r g ih =>
  cases k with
  | zero => simp [flatQ]
  | succ k =>
   have : (k + 1) * 3 = k * 3 + 1 + 1 + 1 := by omega
   simp only [flatQ, List.flatMap_cons, List.cons_append, List.nil_append, List.take_succ_cons, this] at *
   rw [ih]
theorem flatQ_drop (g : List QRow) (k : Nat) : (flatQ g).drop (k * 3) = flatQ (g.drop k) := by
 induction g generalizing k with
 | nil => simp [flatQ]
 | cons r g ih =>
  cases k with
  | zero => simp [flatQ]
  | succ k =>
   have : (k + 1) * 3 = k * 3 + 1 + 1 + 1 := by omega
   simp only [flatQ, List.flatMap_cons, List.cons_append, List.nil_append, List.drop_succ_cons, this] at *
   rw [ih]
theorem flatQ_get {g : List QRow} {i : Nat} {r : QRow} (h : g[i]? = some r) : (flatQ g)[i * 3]? = some (.int .i64 r.table) ∧ (flatQ g)[i * 3 + 1]? = some (.int .i64 r.key) ∧ (flatQ g)[i * 3 + 2]? = some r.cv := by
 obtain ⟨hs, _⟩ := split_at h
 have h1 : ((flatQ g).drop (i * 3)) = [.int .i64 r.table, .int .i64 r.key, r.cv] ++ flatQ (g.drop (i + 1)) := by
  rw [flatQ_drop]
  have : g.drop i = r :: g.drop (i + 1) := by
   obtain ⟨hi, rfl⟩ := List.getElem?_eq_some_iff.1 h
   exact List.drop_eq_getElem_cons hi
  rw [this]; rfl
 refine ⟨?_, ?_, ?_⟩
 ·have h2 := congrArg (fun l => l[0]?) h1
  simpa using h2
 ·have h2 := congrArg (fun l => l[1]?) h1
  simpa using h2
 ·have h2 := congrArg (fun l => l[2]?) h1
  simpa using h2
theorem flatQ_one {g : List QRow} (hc : ∀ r ∈ g, r.cv.oneCell' = true) : ∀ u ∈ flatQ g, u.oneCell' = true := by
 intro u hu
 simp only [flatQ, List.mem_flatMap] at hu
 obtain ⟨r, hr, hu⟩ := hu
 simp only [List.mem_cons, List.not_mem_nil, or_false] at hu
 rcases hu with rfl | rfl | rfl
 ·rfl
 ·rfl
 ·exact hc r hr
theorem IntsAt.one {w : World} {v : Value} {xs : List Int} (h : IntsAt w v xs) : v.oneCell' = true := by
 rcases h with ⟨rfl, _⟩ | ⟨a, cap, rfl, _⟩ <;> rfl

/-- An empty slice reads as none, wherever it points. -/
theorem IntsAt.frN {w w' : World} {v : Value} {xs : List Int} {S : Nat → Prop} (h : IntsAt w v xs) (hf : Fr w w' S) (hv : 0 < xs.length → ∀ k, v.ownBlock = some k → ¬ S k) : IntsAt w' v xs := by
 by_cases hx : 0 < xs.length
 ·exact h.fr hf (hv hx)
 ·obtain rfl : xs = [] := List.eq_nil_of_length_eq_zero (by omega)
  rcases h with h | ⟨a, cap, rfl, _⟩
  ·exact .inl h
  ·exact .inr ⟨a, cap, rfl, fun j u hu => by simp at hu⟩
/-- A slice of such rows. -/
structure QL (w : World) (lv : Value) (g : List QRow) : Prop where
 sl : SlAt w 3 lv g.length (flatQ g)
 cols : ∀ r ∈ g, IntsAt w r.cv r.cols
theorem QL.fr {w w' : World} {lv : Value} {g : List QRow} {S : Nat → Prop} (h : QL w lv g) (hf : Fr w w' S) (hl : ∀ k, lv.ownBlock = some k → ¬ S k) (hc : ∀ r ∈ g, ∀ k, r.cv.ownBlock = some k → ¬ S k) : QL w' lv g :=
 ⟨h.sl.fr hf hl, fun r hr => (h.cols r hr).fr hf (hc r hr)⟩
theorem QL.fr0 {w w' : World} {lv : Value} {g : List QRow} (h : QL w lv g) (hf : Fr w w' Nil) : QL w' lv g := h.fr hf (fun _ _ h => h) fun _ _ _ _ h => h
theorem QL.cells {w : World} {lv : Value} {g : List QRow} (h : QL w lv g) {i : Nat} {r : QRow} (hr : g[i]? = some r) :
  ∃ b off cap, lv = .slice (some ⟨b, off, none⟩) g.length cap ∧ w.cell? ⟨b, off + i * 3, none⟩ = some (.int .i64 r.table) ∧ w.cell? ⟨b, off + i * 3 + 1, none⟩ = some (.int .i64 r.key) ∧ w.cell? ⟨b, off + i * 3 + 2, none⟩ = some r.cv := by
 have hi := (List.getElem?_eq_some_iff.1 hr).1
 obtain ⟨b, off, cap, rfl, hc⟩ := h.sl.form (by omega) (by omega)
 obtain ⟨h1, h2, h3⟩ := flatQ_get hr
 exact ⟨b, off, cap, rfl, hc _ _ h1, hc _ _ h2, hc _ _ h3⟩

/-- The document's rows at rb: their columns N, their rows L; all that they are lies in S. -/
structure RefG (w : World) (rb : Nat) (N : List Int) (nv lv : Value) (g : List QRow) (S : Nat → Prop) : Prop where
 root : Bk w rb 123 [nv, lv]
 n : IntsAt w nv N
 l : QL w lv g
 cap : CapOk lv
 inR : S rb
 inN : ∀ k, nv.ownBlock = some k → S k ∧ k ≠ rb
 inL : ∀ k, lv.ownBlock = some k → S k ∧ k ≠ rb
 inC : ∀ r ∈ g, ∀ k, r.cv.ownBlock = some k → S k ∧ k ≠ rb
 lt : ∀ k, S k → k < w.heap.size
def RefAt (w : World) (rb : Nat) (N : List Int) (L : List QR) (S : Nat → Prop) : Prop := ∃ nv lv g, RefG w rb N nv lv g S ∧ qrows g = L
theorem RefG.fr {w w' : World} {rb : Nat} {N : List Int} {nv lv : Value} {g : List QRow} {S T : Nat → Prop} (h : RefG w rb N nv lv g S) (hf : Fr w w' T) (hd : ∀ k, S k → ¬ T k) : RefG w' rb N nv lv g S :=
 ⟨h.root.fr hf (hd _ h.inR), h.n.fr hf fun k hk => hd k (h.inN k hk).1, h.l.fr hf (fun k hk => hd k (h.inL k hk).1) (fun r hr k hk => hd k (h.inC r hr k hk).1), h.cap, h.inR, h.inN, h.inL, h.inC, fun k hk => Nat.lt_of_lt_of_le (h.lt k hk) hf.size⟩
theorem RefG.fr0 {w w' : World} {rb : Nat} {N : List Int} {nv lv : Value} {g : List QRow} {S : Nat → Prop} (h : RefG w rb N nv lv g S) (hf : Fr w w' Nil) : RefG w' rb N nv lv g S := h.fr hf fun _ _ h => h
theorem RefAt.fr {w w' : World} {rb : Nat} {N : List Int} {L : List QR} {S T : Nat → Prop} (h : RefAt w rb N L S) (hf : Fr w w' T) (hd : ∀ k, S k → ¬ T k) : RefAt w' rb N L S := by
 obtain ⟨nv, lv, g, h, hL⟩ := h
 exact ⟨nv, lv, g, h.fr hf hd, hL⟩
theorem RefAt.fr0 {w w' : World} {rb : Nat} {N : List Int} {L : List QR} {S : Nat → Prop} (h : RefAt w rb N L S) (hf : Fr w w' Nil) : RefAt w' rb N L S := h.fr hf fun _ _ h => h
theorem RefAt.lt {w : World} {rb : Nat} {N : List Int} {L : List QR} {S : Nat → Prop} (h : RefAt w rb N L S) : ∀ k, S k → k < w.heap.size := by
 obtain ⟨nv, lv, g, h, hL⟩ := h
 exact h.lt
/-- Sizes. -/
structure QOk (N : List Int) (L : List QR) : Prop where
 n : N.length ≤ 64
 l : L.length ≤ 100000
 cols : ∀ r ∈ L, r.2.2.length ≤ 1000000

def qcols (N : List Int) (t : Int) : Int := if 0 ≤ t then N[t.toNat]?.getD 0 else 0
def qis (t k : Int) (r : QR) : Bool := r.1 == t && r.2.1 == k
/-- The place of a row, from i on. -/
def qatFrom (t k : Int) : Nat → List QR → Int
 | _, [] => -1
 | i, r :: L => if qis t k r then (i : Int) else qatFrom t k (i + 1) L
def qat (L : List QR) (t k : Int) : Int := qatFrom t k 0 L
def qget (L : List QR) (t k : Int) : Option (List Int) := (L.find? (qis t k)).map (·.2.2)

theorem qatFrom_spec (t k : Int) : ∀ (i : Nat) (L : List QR), (qatFrom t k i L = -1 ∧ ∀ r ∈ L, qis t k r = false) ∨ ∃ j r, qatFrom t k i L = ((i + j : Nat) : Int) ∧ L[j]? = some r ∧ qis t k r = true ∧ ∀ j' r', j' < j → L[j']? = some r' → qis t k r' = false
 | i, [] => .inl ⟨rfl, by simp⟩
 | i, r :: L => by
  unfold qatFrom
  by_cases h : qis t k r = true
  ·rw [if_pos h]
   exact .inr ⟨0, r, by simp, rfl, h, fun j' r' hj => by omega⟩
  ·rw [if_neg h]
   have hf : qis t k r = false := by simpa using h
   rcases qatFrom_spec t k (i + 1) L with ⟨h1, h2⟩ | ⟨j, r', h1, h2, h3, h4⟩
   ·exact .inl ⟨h1, fun x hx => (List.mem_cons.1 hx).elim (fun e => e ▸ hf) (h2 x)⟩
   ·refine .inr ⟨j + 1, r', by rw [h1]; congr 1; omega, by simpa using h2, h3, fun j' x hj hx => ?_⟩
    cases j' with
    | zero => simp at hx; rw [← hx]; exact hf
    | succ j' => exact h4 j' x (by omega) (by simpa using hx)
theorem qat_spec (L : List QR) (t k : Int) : (qat L t k = -1 ∧ ∀ r ∈ L, qis t k r = false) ∨ ∃ (j : Nat) (r : QR), qat L t k = (j : Int) ∧ L[j]? = some r ∧ qis t k r = true ∧ ∀ j' r', j' < j → L[j']? = some r' → qis t k r' = false := by
 have := qatFrom_spec t k 0 L
 simpa [qat] using this
theorem qget_none {L : List QR} {t k : Int} (h : ∀ r ∈ L, qis t k r = false) : qget L t k = none := by
 unfold qget
 rw [List.find?_eq_none.2 fun r hr => by simp [h r hr]]
 rfl
theorem qget_some {L : List QR} {t k : Int} {j : Nat} {r : QR} (h1 : L[j]? = some r) (h2 : qis t k r = true) (h3 : ∀ j' r', j' < j → L[j']? = some r' → qis t k r' = false) : qget L t k = some r.2.2 := by
 unfold qget
 obtain ⟨hj, rfl⟩ := List.getElem?_eq_some_iff.1 h1
 rw [List.find?_eq_some_iff_getElem.2 ⟨h2, j, hj, rfl, fun j' hj' => by simp [h3 j' _ hj' (List.getElem?_eq_getElem (by omega))]⟩]
 rfl

set_option maxRecDepth 100000 in
set_option maxHeartbeats 400000 in
theorem rcols_any {rb : Nat} {N : List Int} {L : List QR} {S : Nat → Prop} (t : Int) (w : World) (h : RefAt w rb N L S) (hN : N.length ≤ 1000000) :
  Calls Tryz.prog 88 #[.pointer (some ⟨rb, 0, none⟩), .int .i64 t] w fun e w' => e = .returned (.int .i64 (qcols N t)) ∧ w = w' := by
 obtain ⟨nv, lv, g, h, _⟩ := h
 obtain ⟨a, cap, hnv⟩ := h.n.shape
 have q0 := h.root.cell 0
 rw [hnv] at q0
 have Hn := Lib.hid h.n
 rw [hnv] at Hn
 clear h hnv
 by_cases h0 : t < 0
 ·have HQ : Hid (qcols N t = 0) := by unfold qcols; rw [if_neg (by omega)]; exact rfl
  go_enter Tryz.func88, Tryz.ntmps88
  go_wp2_with fail
  go_ret
  exact ⟨by rw [HQ.out]; rfl, rfl⟩
 ·obtain ⟨i, rfl⟩ := Int.eq_ofNat_of_zero_le (show 0 ≤ t by omega)
  by_cases hi : i < N.length
  ·have hg := List.getElem?_eq_getElem hi
   generalize N[i] = x at hg
   have HQ : Hid (qcols N i = x) := by
    have : qcols N i = x := by unfold qcols; rw [if_pos (by omega)]; simp [hg]
    exact this
   obtain ⟨b, off, cap2, hv, hc⟩ := Hn.out.form (by omega)
   simp only [Value.slice.injEq, true_and] at hv
   obtain ⟨rfl, rfl⟩ := hv
   have p0 := hc i x hg
   clear hc hg
   go_enter Tryz.func88, Tryz.ntmps88
   go_wp2_with fail
   go_ret
   exact ⟨by rw [HQ.out]; rfl, rfl⟩
  ·have HQ : Hid (qcols N i = 0) := by
    have : qcols N i = 0 := by unfold qcols; rw [if_pos (by omega), List.getElem?_eq_none (by simp; omega)]; rfl
    exact this
   go_enter Tryz.func88, Tryz.ntmps88
   go_wp2_with fail
   go_ret
   exact ⟨by rw [HQ.out]; rfl, rfl⟩

set_option maxRecDepth 100000 in
set_option maxHeartbeats 400000 in
theorem rat_any {rb : Nat} {N : List Int} {L : List QR} {S : Nat → Prop} (t k : Int) (w : World) (h : RefAt w rb N L S) (hL : L.length ≤ 1000000) :
  Calls Tryz.prog 97 #[.pointer (some ⟨rb, 0, none⟩), .int .i64 t, .int .i64 k] w fun e w' => e = .returned (.int .i64 (qat L t k)) ∧ w = w' := by
 obtain ⟨nv, lv, g, h, hgl⟩ := h
 obtain ⟨a, cap, hlv⟩ := h.l.sl.shape
 have q1 := h.root.cell 1
 rw [hlv] at q1
 have Hl := Lib.hid h.l
 rw [hlv] at Hl
 have Hgl := Lib.hid hgl
 have hlen : g.length ≤ 1000000 := by rw [← hgl] at hL; simpa [qrows] using hL
 clear h hlv hgl hL
 go_enter Tryz.func97, Tryz.ntmps97
 go_wp2_with fail
 go_loop [7] (fun vi => ∃ i : Nat, i ≤ g.length ∧ vi = .int .i64 i ∧ qat L t k = qatFrom t k i (qrows (g.drop i))) (fun vi => g.length - (intOf vi).toNat)
 case atStart => exact ⟨0, by omega, rfl, by rw [← Hgl.out]; rfl⟩
 case round =>
  obtain ⟨i, hi, rfl, hq⟩ := hrel
  have Hq := Lib.hid hq
  clear hq
  by_cases hlt : i < g.length
  ·have hr := List.getElem?_eq_getElem hlt
   have hdr : g.drop i = g[i] :: g.drop (i + 1) := List.drop_eq_getElem_cons hlt
   generalize g[i] = r at hr hdr
   obtain ⟨b, off, cap2, hv, p0, p1, p2⟩ := Hl.out.cells hr
   simp only [Value.slice.injEq, true_and] at hv
   obtain ⟨rfl, rfl⟩ := hv
   have HS : Hid (qat L t k = if qis t k r.mod then (i : Int) else qatFrom t k (i + 1) (qrows (g.drop (i + 1)))) := by
    have := Hq.out
    rw [hdr] at this
    exact this
   have hlt2 : (i : Int) < (g.length : Int) := by omega
   clear hr hdr Hq
   by_cases hm : r.table = t ∧ r.key = k
   ·obtain ⟨e1, e2⟩ := hm
    have HF : Hid (qat L t k = (i : Int)) := by
     have h1 := HS.out
     rw [if_pos (by simp [qis, QRow.mod, e1, e2])] at h1
     exact h1
    have f1 : (r.table == t) = true := by rw [beq_iff_eq]; exact e1
    have f2 : (r.key == k) = true := by rw [beq_iff_eq]; exact e2
    clear e1 e2 HS p2
    go_wp2_with fail
    go_ret
    exact ⟨by rw [HF.out]; rfl, rfl⟩
   ·have HF : Hid (qat L t k = qatFrom t k (i + 1) (qrows (g.drop (i + 1)))) := by
     have h1 := HS.out
     rw [if_neg (by simp [qis, QRow.mod]; exact fun e1 e2 => hm ⟨e1, e2⟩)] at h1
     exact h1
    have hff : ((r.table == t) = false) ∨ ((r.table == t) = true ∧ (r.key == k) = false) := by
     by_cases h1 : r.table = t
     ·exact .inr ⟨by rw [beq_iff_eq]; exact h1, by rw [beq_eq_false_iff_ne]; exact fun h2 => hm ⟨h1, h2⟩⟩
     ·exact .inl (by rw [beq_eq_false_iff_ne]; exact h1)
    clear hm HS p2
    rcases hff with f1 | ⟨f1, f2⟩
    ·go_wp2_with fail
     go_round
     case rel => exact ⟨i + 1, by omega, by go_num, HF.out⟩
     case measure => simp [intOf]; omega
    ·go_wp2_with fail
     go_round
     case rel => exact ⟨i + 1, by omega, by go_num, HF.out⟩
     case measure => simp [intOf]; omega
  ·have HF : Hid (qat L t k = -1) := by
    have h1 := Hq.out
    rw [List.drop_of_length_le (by omega)] at h1
    exact h1
   go_wp2_with fail
   go_ret
   exact ⟨by rw [HF.out]; rfl, rfl⟩
end Go.Proofs.YtgpekgnhbccnoaaGreat
