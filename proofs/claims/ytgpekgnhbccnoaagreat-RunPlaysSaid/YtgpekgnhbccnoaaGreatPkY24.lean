/-
  The document's rows: walks of Set, Sum.
  The document's rows: walks of Sum, All.
  The document's rows: walk of New.
-/
import Derived.Test.YtgpekgnhbccnoaaGreatPkY13
import Derived.Deep.RegionLawGrows
import Derived.Deep.AppendLies
namespace Go.Proofs.YtgpekgnhbccnoaaGreat
open Go Go.RowKit

def qset (N : List Int) (L : List QR) (t k c x : Int) : List QR × Bool × Bool :=
  if 0 ≤ c ∧ c < qcols N t then (match qget L t k with
    | none => (L, false, true)
    | some xs => (qput N L t k (xs.set c.toNat x), qmay N t (xs.set c.toNat x), true)) else (L, false, false)

theorem OwnInts.store {w : World} {e : TypeId} {b n cap : Nat} {xs : List Int} (h : OwnInts w e (.slice (some ⟨b, 0, none⟩) n cap) xs) (hn : n = xs.length) (c : Nat) (hc : c < xs.length) (x : Int) :
    IntsAt (w.setCell ⟨b, c, none⟩ (.int .i64 x)) (.slice (some ⟨b, 0, none⟩) n cap) (xs.set c x) := by
  subst hn
  refine .inr ⟨⟨b, 0, none⟩, cap, by rw [List.length_set], fun j u hu => ?_⟩
  rw [Addr.add_lit, Nat.zero_add]
  rw [List.getElem?_map, List.getElem?_set] at hu
  have hcell := h.cell rfl
  by_cases hj : c = j
  · subst hj
    rw [if_pos rfl, if_pos hc] at hu
    have hex := hcell c hc
    simp only [Option.map_some, Option.some.injEq] at hu
    rw [World.cell?_setCell_same w ⟨b, c, none⟩ _ hex, hu]
  · rw [if_neg hj] at hu
    rw [World.cell?_setCell_other _ _ _ _ (by intro e; cases e; exact hj rfl)]
    have hjl : j < xs.length := by
      rcases Nat.lt_or_ge j xs.length with h | h
      · exact h
      · rw [List.getElem?_eq_none h] at hu; cases hu
    rw [hcell j hjl]
    rw [List.getElem?_eq_getElem hjl] at hu
    simp only [Option.map_some, Option.some.injEq] at hu
    rw [← hu]
    simp [List.getD, hjl]

set_option maxRecDepth 100000 in
set_option maxHeartbeats 1000000 in
theorem rset_any {rb : Nat} {N : List Int} {L : List QR} {S : Nat → Prop} (t k c x : Int) (w : World) (h : RefAt w rb N L S) (hq : QOk N L) (hwd : ∀ xs, qget L t k = some xs → (xs.length : Int) = qcols N t) :
    Calls Tryz.prog 60 #[.pointer (some ⟨rb, 0, none⟩), .int .i64 t, .int .i64 k, .int .i64 c, .int .i64 x] w fun e w' =>
      e = .returned (.tuple #[.bool (qset N L t k c x).2.1, .bool (qset N L t k c x).2.2]) ∧ RefUpd w rb N (qset N L t k c x).1 S w' := by
  have H := Lib.hid h
  have Hq := Lib.hid hq
  have Hwd := Lib.hid hwd
  have hN : N.length ≤ 1000000 := by have := hq.n; omega
  clear h hq hwd
  by_cases hc0 : c < 0
  · have HS : Hid (qset N L t k c x = (L, false, false)) := by
      have : qset N L t k c x = (L, false, false) := by unfold qset; rw [if_neg (by omega)]
      exact this
    go_enter Tryz.func60, Tryz.ntmps60
    go_wp2_with fail
    go_ret2
    rw [HS.out]
    exact ⟨rfl, RefUpd.same H.out (Fr.refl _ _)⟩
  · by_cases hc1 : qcols N t ≤ c
    · have HS : Hid (qset N L t k c x = (L, false, false)) := by
        have : qset N L t k c x = (L, false, false) := by unfold qset; rw [if_neg (by omega)]
        exact this
      have hc2 : 0 ≤ c := by omega
      clear hc0
      go_enter Tryz.func60, Tryz.ntmps60
      go_wp2_with (go_at_call 88; refine (rcols_any t _ H.out hN).mono ?_; rintro e w' ⟨rfl, rfl⟩)
      go_ret2
      rw [HS.out]
      exact ⟨rfl, RefUpd.same H.out (Fr.refl _ _)⟩
    · obtain ⟨ci, rfl⟩ := Int.eq_ofNat_of_zero_le (show 0 ≤ c by omega)
      have hlt : (ci : Int) < qcols N t := by omega
      have f1 : decide (qcols N t ≤ (ci : Int)) = false := by rw [decide_eq_false_iff_not]; omega
      have HD : Hid (qset N L t k ci x = match qget L t k with
        | none => (L, false, true)
        | some xs => (qput N L t k (xs.set ci x), qmay N t (xs.set ci x), true)) := by
        have : qset N L t k ci x = match qget L t k with
          | none => (L, false, true)
          | some xs => (qput N L t k (xs.set ci x), qmay N t (xs.set ci x), true) := by
          unfold qset
          rw [if_pos ⟨by omega, hlt⟩]
          rfl
        exact this
      have Hlt := Lib.hid hlt
      clear hc0 hc1 hlt
      go_enter Tryz.func60, Tryz.ntmps60
      go_wp2_with (go_at_call 88; refine (rcols_any t _ H.out hN).mono ?_; rintro e w' ⟨rfl, rfl⟩)
      refine (rget_any t k _ H.out Hq.out).mono ?_
      rintro e w2 hget
      rcases hget with ⟨xs, hm, a5, c5, rfl, hcl⟩ | ⟨hm, rfl, hf⟩
      · have HS : Hid (qset N L t k ci x = (qput N L t k (xs.set ci x), qmay N t (xs.set ci x), true)) := by
          have := HD.out
          rw [hm] at this
          exact this
        have hwd := Hwd.out xs hm
        have hcx : ci < xs.length := by have := Hlt.out; omega
        have hxl : xs.length ≤ 1000000 := by
          have hm2 := hm
          unfold qget at hm2
          rw [Option.map_eq_some_iff] at hm2
          obtain ⟨r, hr, rfl⟩ := hm2
          exact Hq.out.cols r (List.mem_of_find?_eq_some hr)
        obtain ⟨b, cap, hv, _⟩ := hcl.1.form (by omega)
        simp only [Value.slice.injEq, true_and] at hv
        obtain ⟨rfl, rfl⟩ := hv
        have p0 := hcl.1.cell rfl ci hcx
        have p1 := hcl.1.free rfl ci
        have hb : w.heap.size ≤ b := hcl.2.1 b rfl
        have hci : (ci : Int) < (xs.length : Int) := by omega
        have HST : Hid (IntsAt (w2.setCell ⟨b, ci, none⟩ (.int .i64 x)) (.slice (some ⟨b, 0, none⟩) xs.length c5) (xs.set ci x)) := hcl.1.store rfl ci hcx x
        have HF2 : Hid (Fr w (w2.setCell ⟨b, ci, none⟩ (.int .i64 x)) Nil) := hcl.2.2.setCell (fun hlt => by have : b < w.heap.size := hlt; omega) _
        have Hb := Lib.hid hb
        clear hcl hwd hm
        go_wp2_with fail
        refine (rput_any t k _ (xs.set ci x) _ (H.out.fr0 HF2.out) Hq.out HST.out (fun _ j hj => ?_) (by rw [List.length_set]; exact hxl)).mono ?_
        · cases hj
          have := H.out.lt rb (by obtain ⟨nv, lv, g, h, _⟩ := H.out; exact h.inR)
          have := Hb.out
          show b ≠ rb
          omega
        rintro e w3 ⟨rfl, hu⟩
        have HU : Hid (RefUpd w rb N (qput N L t k (xs.set ci x)) S w3) := by
          obtain ⟨⟨nv, lv, g, h1, h2⟩, h3⟩ := hu
          have sz : (w2.setCell ⟨b, ci, none⟩ (.int .i64 x)).heap.size = w2.heap.size := World.size_setCell _ _ _
          have s2 := HF2.out.size
          have hG : ∀ j, Gr S (w2.setCell ⟨b, ci, none⟩ (.int .i64 x)) w3 j → Gr S w w3 j := fun j hj => hj.imp id fun h => ⟨by omega, h.2⟩
          exact ⟨⟨nv, lv, g, ⟨h1.root, h1.n, h1.l, h1.cap, hG _ h1.inR, fun j hj => ⟨hG _ (h1.inN j hj).1, (h1.inN j hj).2⟩, fun j hj => ⟨hG _ (h1.inL j hj).1, (h1.inL j hj).2⟩, fun r hr j hj => ⟨hG _ (h1.inC r hr j hj).1, (h1.inC r hr j hj).2⟩, fun j hj => hj.elim (fun hj => Nat.lt_of_lt_of_le (H.out.lt j hj) (Nat.le_trans s2 h3.size)) (·.2)⟩, h2⟩, HF2.out.of_nil.transS h3⟩
        clear hu
        go_wp2_with fail
        go_ret2
        rw [HS.out]
        exact ⟨rfl, HU.out⟩
      · have HS : Hid (qset N L t k ci x = (L, false, true)) := by
          have := HD.out
          rw [hm] at this
          exact this
        have Hf := Lib.hid hf
        clear hf hm
        go_wp2_with fail
        go_ret2
        rw [HS.out]
        exact ⟨rfl, RefUpd.same H.out Hf.out⟩

/-- The sum of the first i rows' values. -/
def qsumTo (L : List QR) (t c : Int) : Nat → Int
  | 0 => 0
  | i + 1 => match L[i]? with
    | some r => if r.1 = t ∧ 0 ≤ c ∧ c < (r.2.2.length : Int) then wrap64 (qsumTo L t c i + r.2.2.getD c.toNat 0) else qsumTo L t c i
    | none => qsumTo L t c i
def qsum (L : List QR) (t c : Int) : Int := qsumTo L t c L.length
end Go.Proofs.YtgpekgnhbccnoaaGreat
namespace Go.Proofs.YtgpekgnhbccnoaaGreat
open Go Go.RowKit

theorem qsumTo_next {L : List QR} {t c : Int} {i : Nat} {r : QR} (h : L[i]? = some r) : qsumTo L t c (i + 1) = if r.1 = t ∧ 0 ≤ c ∧ c < (r.2.2.length : Int) then wrap64 (qsumTo L t c i + r.2.2.getD c.toNat 0) else qsumTo L t c i := by
  show (match L[i]? with | some r => _ | none => _) = _
  rw [h]

set_option maxRecDepth 100000 in
set_option maxHeartbeats 1000000 in
theorem rsum_any {rb : Nat} {N : List Int} {L : List QR} {S : Nat → Prop} (t c : Int) (w : World) (h : RefAt w rb N L S) (hq : QOk N L) :
    Calls Tryz.prog 62 #[.pointer (some ⟨rb, 0, none⟩), .int .i64 t, .int .i64 c] w fun e w' => e = .returned (.int .i64 (qsum L t c)) ∧ Fr w w' Nil := by
  obtain ⟨nv, lv, g, h, hgl⟩ := h
  obtain ⟨a, cap, hlv⟩ := h.l.sl.shape
  have q1 := h.root.cell 1
  rw [hlv] at q1
  have Hl := Lib.hid h.l
  rw [hlv] at Hl
  have Hgl := Lib.hid hgl
  have Hq := Lib.hid hq
  have hlen : g.length ≤ 100000 := by have := hq.l; rw [← hgl] at this; simpa [qrows] using this
  clear h hlv hgl hq
  go_enter Tryz.func62, Tryz.ntmps62
  go_wp2_with fail
  go_loopw [7, 8] (fun vn vi wr => ∃ i : Nat, i ≤ g.length ∧ vi = .int .i64 i ∧ vn = .int .i64 (qsumTo L t c i) ∧ Fr w wr Nil) (fun _ vi _ => g.length - (intOf vi).toNat)
  case atStart => exact ⟨0, by omega, rfl, rfl, Fr.refl _ _⟩
  case round =>
    obtain ⟨i, hi, rfl, rfl, hf⟩ := hrel
    have Hf := Lib.hid hf
    have q2 := hf.cell q1 (fun h => h)
    clear hf
    by_cases hlt : i < g.length
    · have hr := List.getElem?_eq_getElem hlt
      generalize g[i] = r at hr
      obtain ⟨b, off, cap2, hv, p0, p1, p2⟩ := (Hl.out.fr0 Hf.out).cells hr
      simp only [Value.slice.injEq, true_and] at hv
      obtain ⟨rfl, rfl⟩ := hv
      have hci := (Hl.out.fr0 Hf.out).cols r (List.mem_of_getElem? hr)
      obtain ⟨ac, cc, hcv⟩ := hci.shape
      rw [hcv] at p2 hci
      have hLr : L[i]? = some r.mod := by rw [← Hgl.out]; simp [qrows, hr]
      have hcl : r.cols.length ≤ 1000000 := Hq.out.cols r.mod (List.mem_of_getElem? hLr)
      have HS : Hid (qsumTo L t c (i + 1) = if r.table = t ∧ 0 ≤ c ∧ c < (r.cols.length : Int) then wrap64 (qsumTo L t c i + r.cols.getD c.toNat 0) else qsumTo L t c i) := qsumTo_next (t := t) (c := c) hLr
      have hlt2 : (i : Int) < (g.length : Int) := by omega
      have Hci := Lib.hid hci
      clear hr hcv hLr hci p1
      by_cases hall : r.table = t ∧ 0 ≤ c ∧ c < (r.cols.length : Int)
      · obtain ⟨e1, e2, e3⟩ := hall
        have HF : Hid (qsumTo L t c (i + 1) = wrap64 (qsumTo L t c i + r.cols.getD c.toNat 0)) := by
          have h1 := HS.out
          rw [if_pos ⟨e1, e2, e3⟩] at h1
          exact h1
        obtain ⟨ci, rfl⟩ := Int.eq_ofNat_of_zero_le e2
        have e4 : ci < r.cols.length := by omega
        obtain ⟨bc, oc, cc2, hcv2, hcc⟩ := Hci.out.form (by omega)
        simp only [Value.slice.injEq, true_and] at hcv2
        obtain ⟨rfl, rfl⟩ := hcv2
        have p3 := hcc ci _ (List.getElem?_eq_getElem e4)
        have HX : Hid (r.cols.getD (ci : Int).toNat 0 = r.cols[ci]) := by
          have : r.cols.getD (ci : Int).toNat 0 = r.cols[ci] := by simp [List.getD, e4]
          exact this
        generalize r.cols[ci] = x at p3 HX
        have f1 : (r.table == t) = true := by rw [beq_iff_eq]; exact e1
        clear e1 HS hcc e2
        go_wp2_with fail
        go_roundw
        case rel => exact ⟨i + 1, by omega, by go_num, by rw [HF.out, HX.out], by first | exact Hf.out | exact Hf.out.drewN _⟩
        case measure => simp [intOf]; omega
      · have HF : Hid (qsumTo L t c (i + 1) = qsumTo L t c i) := by
          have h1 := HS.out
          rw [if_neg hall] at h1
          exact h1
        have hff : ((r.table == t) = false) ∨ ((r.table == t) = true ∧ decide (0 ≤ c) = false) ∨ ((r.table == t) = true ∧ decide (0 ≤ c) = true ∧ decide (c < (r.cols.length : Int)) = false) := by
          by_cases h1 : r.table = t
          · by_cases h2 : 0 ≤ c
            · exact .inr (.inr ⟨beq_iff_eq.2 h1, decide_eq_true h2, decide_eq_false fun h3 => hall ⟨h1, h2, h3⟩⟩)
            · exact .inr (.inl ⟨beq_iff_eq.2 h1, decide_eq_false h2⟩)
          · exact .inl (beq_eq_false_iff_ne.2 h1)
        clear hall HS
        rcases hff with f1 | ⟨f1, f2⟩ | ⟨f1, f2, f3⟩
        all_goals
          go_wp2_with fail
          go_roundw
          case rel => exact ⟨i + 1, by omega, by go_num, by rw [HF.out], Hf.out⟩
          case measure => simp [intOf]; omega
    · have HF : Hid (qsumTo L t c i = qsum L t c) := by
        have : qsumTo L t c i = qsum L t c := by
          unfold qsum
          congr 1
          rw [← Hgl.out]
          simp [qrows]
          omega
        exact this
      go_wp2_with fail
      go_ret
      exact ⟨by rw [← HF.out]; rfl, Hf.out⟩

def qall (L : List QR) (t : Int) : List QR := L.filter fun r => r.1 == t
/-- Some of a row of rows, by a new row that shares their values. -/
structure QSub (w w' : World) (lv : Value) (g g0 : List QRow) : Prop where
  l : QL w' lv g
  new : ∀ k, lv.ownBlock = some k → w.heap.size ≤ k ∧ k < w'.heap.size
  sub : ∀ r ∈ g, r ∈ g0
  fr : Fr w w' Nil
theorem qall_next {L : List QR} {t : Int} {i : Nat} {r : QR} (h : L[i]? = some r) : qall (L.take (i + 1)) t = qall (L.take i) t ++ if r.1 == t then [r] else [] := by
  unfold qall
  rw [List.take_add_one, h, List.filter_append]
  congr 1
  simp only [Option.toList_some, List.filter_cons, List.filter_nil]
def QAllRet (g0 : List QRow) (M : List QR) (w : World) (e : Ending) (w' : World) : Prop :=
  ∃ a cap g', e = .returned (.slice a g'.length cap) ∧ QSub w w' (.slice a g'.length cap) g' g0 ∧ qrows g' = M

set_option maxRecDepth 100000 in
set_option maxHeartbeats 1000000 in
theorem rall_any {rb : Nat} {N : List Int} {nv lv : Value} {g : List QRow} {S : Nat → Prop} (t : Int) (w : World) (h : RefG w rb N nv lv g S) (hlen : g.length ≤ 100000) :
    Calls Tryz.prog 65 #[.pointer (some ⟨rb, 0, none⟩), .int .i64 t] w (QAllRet g (qall (qrows g) t) w) := by
  obtain ⟨a, cap, hlv⟩ := h.l.sl.shape
  have q1 := h.root.cell 1
  rw [hlv] at q1
  have Hl := Lib.hid h.l
  rw [hlv] at Hl
  clear h hlv
  go_enter Tryz.func65, Tryz.ntmps65
  go_wp2_with fail
  go_loopw [5, 6] (fun vl vi wr => ∃ (i : Nat) (al : Option Addr) (cl : Nat) (g' : List QRow), i ≤ g.length ∧ g'.length ≤ i ∧ vi = .int .i64 i ∧ vl = .slice al g'.length cl ∧ wr.ownsRow 0 130 3 (.slice al g'.length cl) g'.length (flatQ g') ∧ (∀ k, (Value.slice al g'.length cl).ownBlock = some k → w.heap.size ≤ k) ∧ (∀ r ∈ g', r ∈ g) ∧ qrows g' = qall ((qrows g).take i) t ∧ Fr w wr Nil)
    (fun _ vi _ => g.length - (intOf vi).toNat)
  case atStart => exact ⟨0, none, 0, [], by omega, by simp, rfl, rfl, World.ownsRow_nil _ _ _ _, (fun k hk => by simp [Value.ownBlock] at hk), (fun r hr => by cases hr), rfl, Fr.refl _ _⟩
  case round =>
    obtain ⟨i, al, cl, g', hi, hgi, rfl, rfl, ho, hnew, hsub, hq, hf⟩ := hrel
    have Ho := Lib.hid ho
    have Hnew := Lib.hid hnew
    have Hsub := Lib.hid hsub
    have Hq := Lib.hid hq
    have Hf := Lib.hid hf
    have q2 := hf.cell q1 (fun h => h)
    clear ho hnew hsub hq hf
    by_cases hlt : i < g.length
    · have hr := List.getElem?_eq_getElem hlt
      generalize g[i] = r at hr
      obtain ⟨b, off, cap2, hv, p0, p1, p2⟩ := (Hl.out.fr0 Hf.out).cells hr
      simp only [Value.slice.injEq, true_and] at hv
      obtain ⟨rfl, rfl⟩ := hv
      have hci := (Hl.out.fr0 Hf.out).cols r (List.mem_of_getElem? hr)
      have Hr := Lib.hid hr
      have HN : Hid (qall ((qrows g).take (i + 1)) t = qall ((qrows g).take i) t ++ if r.table == t then [r.mod] else []) := qall_next (L := qrows g) (t := t) (i := i) (r := r.mod) (by simp [qrows, hr])
      have hlt2 : (i : Int) < (g.length : Int) := by omega
      have HOne : Hid (r.cv.oneCell' = true) := hci.one
      clear hr hci
      by_cases ht : r.table = t
      · have f1 : (r.table == t) = true := by rw [beq_iff_eq]; exact ht
        have HB := Lib.hid (Bk.new wr 130 #[Value.int .i64 r.table, .int .i64 r.key, r.cv])
        have HO3 : Hid (∀ u ∈ [Value.int .i64 r.table, .int .i64 r.key, r.cv], u.oneCell' = true) := by
          intro u hu
          simp only [List.mem_cons, List.not_mem_nil, or_false] at hu
          rcases hu with rfl | rfl | rfl
          · rfl
          · rfl
          · exact HOne.out
        have HF1 : Hid (qall ((qrows g).take (i + 1)) t = qall ((qrows g).take i) t ++ [r.mod]) := by
          have h1 := HN.out
          rw [f1] at h1
          exact h1
        clear ht HN
        go_wp2_with (first
          | (at_builtin
             refine wpList_app _ rfl _ _ _ rfl slQ (.slice al g'.length cl) rfl ((Fr.refl wr Nil).alloc _ |>.own Ho.out fun _ _ h => h) (.slice (some ⟨wr.heap.size, 0, none⟩) 1 1) rfl (SlAt.of_block HB.out) HO3.out (by omega) ?_
             intro a2 c2 w2 ho2 hg2 hat2)
          | fail)
        have Ho2 := Lib.hid ho2
        have Hat2 := Lib.hid (fresh_of2 hat2 Hnew.out (by have := Hf.out.size; simp; omega))
        have Hf2 := Lib.hid (Fr.app (Hf.out.alloc _) hg2 Hnew.out)
        clear ho2 hg2 hat2
        go_roundw
        case rel =>
          refine ⟨i + 1, a2, c2, g' ++ [r], by omega, by simp; omega, by go_num, by simp, ?_, ?_, ?_, ?_, Hf2.out⟩
          · rw [flatQ_append]
            have h1 := Ho2.out
            simpa [flatQ] using h1
          · have h1 := Hat2.out
            simpa using h1
          · intro x hx
            rw [List.mem_append, List.mem_singleton] at hx
            rcases hx with hx | rfl
            · exact Hsub.out x hx
            · exact List.mem_of_getElem? Hr.out
          · rw [HF1.out, ← Hq.out]
            simp [qrows]
        case measure => simp [intOf]; omega
      · have f1 : (r.table == t) = false := by rw [beq_eq_false_iff_ne]; exact ht
        have HF1 : Hid (qall ((qrows g).take (i + 1)) t = qall ((qrows g).take i) t) := by
          have h1 := HN.out
          rw [f1] at h1
          simp only [Bool.false_eq_true, if_false, List.append_nil] at h1
          exact h1
        clear ht HN
        go_wp2_with fail
        go_roundw
        case rel => exact ⟨i + 1, al, cl, g', by omega, by omega, by go_num, rfl, Ho.out, Hnew.out, Hsub.out, by rw [HF1.out]; exact Hq.out, Hf.out⟩
        case measure => simp [intOf]; omega
    · go_wp2_with fail
      go_ret
      refine ⟨al, cl, g', rfl, ⟨⟨(SlAt.of_own Ho.out).1, fun r hr => (Hl.out.cols r (Hsub.out r hr)).fr Hf.out fun _ _ h => h⟩, fun k hk => ⟨Hnew.out k hk, (World.ownsRow.lt Ho.out k hk).2⟩, Hsub.out, Hf.out⟩, ?_⟩
      rw [Hq.out, List.take_of_length_le (by simp [qrows]; omega)]
end Go.Proofs.YtgpekgnhbccnoaaGreat
namespace Go.Proofs.YtgpekgnhbccnoaaGreat
open Go Go.RowKit
attribute [local go_sem ↓] Go.wp_at_zero Go.wp_at_succ

def colOk (l : List Int) : Prop := l.length ≤ 64 ∧ ∀ n ∈ l, 1 ≤ n ∧ n ≤ 16
def RNewRet (cols : List Int) (w : World) (e : Ending) (w' : World) : Prop :=
  (colOk cols ∧ ∃ rb S, e = .returned (.tuple #[.pointer (some ⟨rb, 0, none⟩), .bool true]) ∧ RefAt w' rb cols [] S ∧ (∀ k, S k → w.heap.size ≤ k) ∧ Fr w w' Nil) ∨
  (¬ colOk cols ∧ e = .returned (.tuple #[.pointer none, .bool false]) ∧ Fr w w' Nil)

set_option maxRecDepth 100000 in
set_option maxHeartbeats 1000000 in
theorem rnew_any (v : Value) (cols : List Int) (w : World) (hv : IntsAt w v cols) (hl : cols.length ≤ 9223372036854775807) :
    Calls Tryz.prog 43 #[v] w (RNewRet cols w) := by
  obtain ⟨av, capv, rfl⟩ := hv.shape
  have Hv := Lib.hid hv
  clear hv
  go_enter Tryz.func43, Tryz.ntmps43
  go_wp2_with fail
  go_loopw [5] (fun vi wr => ∃ (i : Nat) (a : Option Addr) (c : Nat), i ≤ cols.length ∧ i ≤ 64 ∧ vi = .int .i64 i ∧ Bk wr w.heap.size 123 [.slice a i c, .slice none 0 0] ∧ wr.ownsRow 0 3 1 (.slice a i c) i ((cols.take i).map (Value.int .i64)) ∧ (∀ k, (Value.slice a i c).ownBlock = some k → w.heap.size < k) ∧ (∀ n ∈ cols.take i, 1 ≤ n ∧ n ≤ 16) ∧ Fr w wr Nil)
    (fun vi _ => cols.length - (intOf vi).toNat)
  case atStart => exact ⟨0, none, 0, by omega, by omega, rfl, Bk.new _ _ _, World.ownsRow_nil _ _ _ _, (fun k hk => by simp [Value.ownBlock] at hk), by simp, (Fr.refl _ _).alloc _⟩
  case round =>
    obtain ⟨i, a, c, hi, h64, rfl, hb, ho, hnew, hall, hf⟩ := hrel
    have Hb := Lib.hid hb
    have Ho := Lib.hid ho
    have Hnew := Lib.hid hnew
    have Hall := Lib.hid hall
    have Hf := Lib.hid hf
    clear hb ho hnew hall hf
    by_cases hlt : i < cols.length
    · by_cases hi64 : i < 64
      · obtain ⟨b, off, cap2, hvf, hc⟩ := Hv.out.form (by omega)
        simp only [Value.slice.injEq, true_and] at hvf
        obtain ⟨rfl, rfl⟩ := hvf
        have hn := List.getElem?_eq_getElem hlt
        generalize cols[i] = n at hn
        have p0 := Hf.out.cell (hc i n hn) fun h => h
        have Hn := Lib.hid hn
        have hlt2 : (i : Int) < (cols.length : Int) := by omega
        have g64 : decide (64 ≤ i) = false := by rw [decide_eq_false_iff_not]; omega
        clear hc hn
        by_cases hr : 1 ≤ n ∧ n ≤ 16
        · obtain ⟨hr1, hr2⟩ := hr
          have g1 : decide (n < 1) = false := by rw [decide_eq_false_iff_not]; omega
          have g2 : decide (16 < n) = false := by rw [decide_eq_false_iff_not]; omega
          have q0 := Hb.out.cell 0
          have z0 := fun o => ((Fr.refl wr Nil).alloc o).cell q0 (fun h => h)
          have HB1 := Lib.hid (Bk.new wr.drew 3 #[Value.int .i64 n])
          have HO3 : Hid (∀ u ∈ [Value.int .i64 n], u.oneCell' = true) := by
            intro u hu
            simp only [List.mem_singleton] at hu
            subst hu; rfl
          have HBd := Lib.hid ((Hb.out.fr ((Fr.refl wr Nil).drew) (fun h => h)).alloc (Obj.cells #[Value.int .i64 n] 3))
          have HNE : Hid (∀ j, (Value.slice a i c).ownBlock = some j → j ≠ w.heap.size) := fun j hj e => by have := Hnew.out j hj; omega
          have hin : i + 1 ≤ 1000000 := by omega
          go_wp2_with fail
          go_region_law (first
            | (refine step_app _ (by rfl) _ _ _ (by rfl) slN (.slice a i c) (by rfl) (((Fr.refl wr Nil).drew.alloc _).own Ho.out (fun _ _ h => h)) (.slice (some ⟨wr.heap.size, 0, none⟩) 1 1) (by rfl) (SlAt.of_block HB1.out) HO3.out hin ?_
               intro a2 c2 w2 ho2 hg2 hat2
               have hB2 := HBd.out.fr ((Fr.refl _ (fun j => (Value.slice a i c).ownBlock = some j)).grown hg2 fun j hj _ => hj) (fun h => HNE.out _ h rfl)
               have y0 := hB2.cell 0
               have y1 := hB2.free 0))
          all_goals
            have Ho2 := Lib.hid ho2
            have Hat2 := Lib.hid hat2
            have Hg2 := Lib.hid hg2
            have HB2 := Lib.hid hB2
            clear ho2 hat2 hg2 hB2 y0 y1 q0 z0
            go_wp2_with fail
            refine ⟨⟨i + 1, a2, c2, by omega, by omega, by go_num, (HB2.out.set 0 _), ?_, ?_, ?_, ?_⟩, by simp [intOf]; omega⟩
            · have h1 : (cols.take (i + 1)).map (Value.int .i64) = (cols.take i).map (Value.int .i64) ++ [Value.int .i64 n] := by
                rw [List.take_add_one, Hn.out]; simp
              rw [h1]
              refine (Fr.store _ w.heap.size 0 _).own Ho2.out fun j hj e => ?_
              have e' : j = w.heap.size := e
              rcases Hat2.out with h | h
              · rw [h] at hj; exact HNE.out j hj e'
              · rw [h] at hj
                cases hj
                have := Hf.out.size
                have := Hb.out.lt
                simp at e'
                omega
            · intro j hj
              rcases Hat2.out with h | h
              · rw [h] at hj; exact Hnew.out j hj
              · rw [h] at hj
                cases hj
                have := Hb.out.lt
                simp
                omega
            · intro m hm
              rw [List.take_add_one, Hn.out] at hm
              simp only [Option.toList_some, List.mem_append, List.mem_singleton] at hm
              rcases hm with hm | rfl
              · exact Hall.out m hm
              · exact ⟨hr1, hr2⟩
            · refine ((Hf.out.drew.alloc _).grown Hg2.out fun j hj hlt => ?_).setCell (fun hlt => ?_) _
              · have := Hnew.out j hj; omega
              · have h2 : w.heap.size < w.heap.size := hlt
                omega
        · have hbad : Hid (¬ colOk cols) := fun h => hr (h.2 n (List.mem_of_getElem? Hn.out))
          by_cases hr1 : n < 1
          · have g1 : decide (n < 1) = true := decide_eq_true hr1
            clear hr hr1
            go_wp2_with fail
            go_ret2
            exact .inr ⟨hbad.out, rfl, Hf.out⟩
          · have g1 : decide (n < 1) = false := decide_eq_false hr1
            have g2 : decide (16 < n) = true := decide_eq_true (by omega)
            clear hr hr1
            go_wp2_with fail
            go_ret2
            exact .inr ⟨hbad.out, rfl, Hf.out⟩
      · have hbad : Hid (¬ colOk cols) := fun h => by have := h.1; omega
        have g64 : 64 ≤ i := by omega
        go_wp2_with fail
        go_ret2
        exact .inr ⟨hbad.out, rfl, Hf.out⟩
    · have hok : Hid (colOk cols) := ⟨by omega, fun n hn => Hall.out n (by rw [List.take_of_length_le (by omega)]; exact hn)⟩
      have hil : i = cols.length := by omega
      have Hil := Lib.hid hil
      clear hil
      go_wp2_with fail
      go_ret2
      refine .inl ⟨hok.out, w.heap.size, fun k => w.heap.size ≤ k ∧ k < wr.heap.size, rfl, ⟨_, _, [], ⟨Hb.out, ?_, ⟨SlAt.nil _ _, fun r hr => by cases hr⟩, (fun a n c e => by cases e; exact Nat.le_refl _), ⟨Nat.le_refl _, Hb.out.lt⟩, fun k hk => ⟨⟨Nat.le_of_lt (Hnew.out k hk), (World.ownsRow.lt Ho.out k hk).2⟩, fun e => by have := Hnew.out k hk; omega⟩, (fun k hk => by simp [Value.ownBlock] at hk), (fun r hr => by cases hr), fun k hk => hk.2⟩, rfl⟩, fun k hk => hk.1, Hf.out⟩
      have h1 := (SlAt.of_own Ho.out).1
      have hil := Hil.out
      subst hil
      rw [List.take_of_length_le (Nat.le_refl _)] at h1
      exact h1.ints
end Go.Proofs.YtgpekgnhbccnoaaGreat
