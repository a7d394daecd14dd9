/-
  The document's rows: walks of Sum, All.
  No condition but sizes.
-/
import Derived.Test.YtljgifjokdppgaaRfSet
namespace Go.Proofs.Ytljgifjokdppgaa
open Go Go.RowKit

theorem qsumTo_next {L : List QR} {t c : Int} {i : Nat} {r : QR} (h : L[i]? = some r) : qsumTo L t c (i + 1) = if r.1 = t ∧ 0 ≤ c ∧ c < (r.2.2.length : Int) then wrap64 (qsumTo L t c i + r.2.2.getD c.toNat 0) else qsumTo L t c i := by
  show (match L[i]? with | some r => _ | none => _) = _
  rw [h]

set_option maxRecDepth 100000 in
set_option maxHeartbeats 1000000 in
theorem rsum_any {rb : Nat} {N : List Int} {L : List QR} {S : Nat → Prop} (t c : Int) (w : World) (h : RefAt w rb N L S) (hq : QOk N L) :
    Calls Try.prog 46 #[.pointer (some ⟨rb, 0, none⟩), .int .i64 t, .int .i64 c] w fun e w' => e = .returned (.int .i64 (qsum L t c)) ∧ Fr w w' Nil := by
  obtain ⟨nv, lv, g, h, hgl⟩ := h
  obtain ⟨a, cap, hlv⟩ := h.l.sl.shape
  have q1 := h.root.cell 1
  rw [hlv] at q1
  have Hl := Lib.hid h.l
  rw [hlv] at Hl
  have Hgl := Lib.hid hgl
  have Hq := Lib.hid hq
  have hlen : g.length ≤ 100000 := by have := hq.l; rw [← hgl] at this; simpa [qrows] using this
  clear h hlv hgl hq
  go_enter Try.func46, Try.ntmps46
  go_wp2_with fail
  go_loopw [7, 8] (fun vn vi wr => ∃ i : Nat, i ≤ g.length ∧ vi = .int .i64 i ∧ vn = .int .i64 (qsumTo L t c i) ∧ Fr w wr Nil) (fun _ vi _ => g.length - (intOf vi).toNat)
  case atStart => exact ⟨0, by omega, rfl, rfl, Fr.refl _ _⟩
  case round =>
    obtain ⟨i, hi, rfl, rfl, hf⟩ := hrel
    have Hf := Lib.hid hf
    have q2 := hf.cell q1 (fun h => h)
    clear hf
    by_cases hlt : i < g.length
    · have hr := List.getElem?_eq_getElem hlt
      generalize g[i] = r at hr
      obtain ⟨b, off, cap2, hv, p0, p1, p2⟩ := (Hl.out.fr0 Hf.out).cells hr
      simp only [Value.slice.injEq, true_and] at hv
      obtain ⟨rfl, rfl⟩ := hv
      have hci := (Hl.out.fr0 Hf.out).cols r (List.mem_of_getElem? hr)
      obtain ⟨ac, cc, hcv⟩ := hci.shape
      rw [hcv] at p2 hci
      have hLr : L[i]? = some r.mod := by rw [← Hgl.out]; simp [qrows, hr]
      have hcl : r.cols.length ≤ 1000000 := Hq.out.cols r.mod (List.mem_of_getElem? hLr)
      have HS : Hid (qsumTo L t c (i + 1) = if r.table = t ∧ 0 ≤ c ∧ c < (r.cols.length : Int) then wrap64 (qsumTo L t c i + r.cols.getD c.toNat 0) else qsumTo L t c i) := qsumTo_next (t := t) (c := c) hLr
      have hlt2 : (i : Int) < (g.length : Int) := by omega
      have Hci := Lib.hid hci
      clear hr hcv hLr hci p1
      by_cases hall : r.table = t ∧ 0 ≤ c ∧ c < (r.cols.length : Int)
      · obtain ⟨e1, e2, e3⟩ := hall
        have HF : Hid (qsumTo L t c (i + 1) = wrap64 (qsumTo L t c i + r.cols.getD c.toNat 0)) := by
          have h1 := HS.out
          rw [if_pos ⟨e1, e2, e3⟩] at h1
          exact h1
        obtain ⟨ci, rfl⟩ := Int.eq_ofNat_of_zero_le e2
        have e4 : ci < r.cols.length := by omega
        obtain ⟨bc, oc, cc2, hcv2, hcc⟩ := Hci.out.form (by omega)
        simp only [Value.slice.injEq, true_and] at hcv2
        obtain ⟨rfl, rfl⟩ := hcv2
        have p3 := hcc ci _ (List.getElem?_eq_getElem e4)
        have HX : Hid (r.cols.getD (ci : Int).toNat 0 = r.cols[ci]) := by
          have : r.cols.getD (ci : Int).toNat 0 = r.cols[ci] := by simp [List.getD, e4]
          exact this
        generalize r.cols[ci] = x at p3 HX
        have f1 : (r.table == t) = true := by rw [beq_iff_eq]; exact e1
        clear e1 HS hcc e2
        go_wp2_with fail
        go_roundw
        case rel => exact ⟨i + 1, by omega, by go_num, by rw [HF.out, HX.out], by first | exact Hf.out | exact Hf.out.drewN _⟩
        case measure => simp [intOf]; omega
      · have HF : Hid (qsumTo L t c (i + 1) = qsumTo L t c i) := by
          have h1 := HS.out
          rw [if_neg hall] at h1
          exact h1
        have hff : ((r.table == t) = false) ∨ ((r.table == t) = true ∧ decide (0 ≤ c) = false) ∨ ((r.table == t) = true ∧ decide (0 ≤ c) = true ∧ decide (c < (r.cols.length : Int)) = false) := by
          by_cases h1 : r.table = t
          · by_cases h2 : 0 ≤ c
            · exact .inr (.inr ⟨beq_iff_eq.2 h1, decide_eq_true h2, decide_eq_false fun h3 => hall ⟨h1, h2, h3⟩⟩)
            · exact .inr (.inl ⟨beq_iff_eq.2 h1, decide_eq_false h2⟩)
          · exact .inl (beq_eq_false_iff_ne.2 h1)
        clear hall HS
        rcases hff with f1 | ⟨f1, f2⟩ | ⟨f1, f2, f3⟩
        all_goals
          go_wp2_with fail
          go_roundw
          case rel => exact ⟨i + 1, by omega, by go_num, by rw [HF.out], Hf.out⟩
          case measure => simp [intOf]; omega
    · have HF : Hid (qsumTo L t c i = qsum L t c) := by
        have : qsumTo L t c i = qsum L t c := by
          unfold qsum
          congr 1
          rw [← Hgl.out]
          simp [qrows]
          omega
        exact this
      go_wp2_with fail
      go_ret
      exact ⟨by rw [← HF.out]; rfl, Hf.out⟩

def qall (L : List QR) (t : Int) : List QR := L.filter fun r => r.1 == t
/-- Some of a row of rows, by a new row that shares their values. -/
structure QSub (w w' : World) (lv : Value) (g g0 : List QRow) : Prop where
  l : QL w' lv g
  new : ∀ k, lv.ownBlock = some k → w.heap.size ≤ k ∧ k < w'.heap.size
  sub : ∀ r ∈ g, r ∈ g0
  fr : Fr w w' Nil
theorem qall_next {L : List QR} {t : Int} {i : Nat} {r : QR} (h : L[i]? = some r) : qall (L.take (i + 1)) t = qall (L.take i) t ++ if r.1 == t then [r] else [] := by
  unfold qall
  rw [List.take_add_one, h, List.filter_append]
  congr 1
  simp only [Option.toList_some, List.filter_cons, List.filter_nil]
def QAllRet (g0 : List QRow) (M : List QR) (w : World) (e : Ending) (w' : World) : Prop :=
  ∃ a cap g', e = .returned (.slice a g'.length cap) ∧ QSub w w' (.slice a g'.length cap) g' g0 ∧ qrows g' = M

set_option maxRecDepth 100000 in
set_option maxHeartbeats 1000000 in
theorem rall_any {rb : Nat} {N : List Int} {nv lv : Value} {g : List QRow} {S : Nat → Prop} (t : Int) (w : World) (h : RefG w rb N nv lv g S) (hlen : g.length ≤ 100000) :
    Calls Try.prog 45 #[.pointer (some ⟨rb, 0, none⟩), .int .i64 t] w (QAllRet g (qall (qrows g) t) w) := by
  obtain ⟨a, cap, hlv⟩ := h.l.sl.shape
  have q1 := h.root.cell 1
  rw [hlv] at q1
  have Hl := Lib.hid h.l
  rw [hlv] at Hl
  clear h hlv
  go_enter Try.func45, Try.ntmps45
  go_wp2_with fail
  go_loopw [5, 6] (fun vl vi wr => ∃ (i : Nat) (al : Option Addr) (cl : Nat) (g' : List QRow), i ≤ g.length ∧ g'.length ≤ i ∧ vi = .int .i64 i ∧ vl = .slice al g'.length cl ∧ wr.ownsRow 0 91 3 (.slice al g'.length cl) g'.length (flatQ g') ∧ (∀ k, (Value.slice al g'.length cl).ownBlock = some k → w.heap.size ≤ k) ∧ (∀ r ∈ g', r ∈ g) ∧ qrows g' = qall ((qrows g).take i) t ∧ Fr w wr Nil)
    (fun _ vi _ => g.length - (intOf vi).toNat)
  case atStart => exact ⟨0, none, 0, [], by omega, by simp, rfl, rfl, World.ownsRow_nil _ _ _ _, (fun k hk => by simp [Value.ownBlock] at hk), (fun r hr => by cases hr), rfl, Fr.refl _ _⟩
  case round =>
    obtain ⟨i, al, cl, g', hi, hgi, rfl, rfl, ho, hnew, hsub, hq, hf⟩ := hrel
    have Ho := Lib.hid ho
    have Hnew := Lib.hid hnew
    have Hsub := Lib.hid hsub
    have Hq := Lib.hid hq
    have Hf := Lib.hid hf
    have q2 := hf.cell q1 (fun h => h)
    clear ho hnew hsub hq hf
    by_cases hlt : i < g.length
    · have hr := List.getElem?_eq_getElem hlt
      generalize g[i] = r at hr
      obtain ⟨b, off, cap2, hv, p0, p1, p2⟩ := (Hl.out.fr0 Hf.out).cells hr
      simp only [Value.slice.injEq, true_and] at hv
      obtain ⟨rfl, rfl⟩ := hv
      have hci := (Hl.out.fr0 Hf.out).cols r (List.mem_of_getElem? hr)
      have Hr := Lib.hid hr
      have HN : Hid (qall ((qrows g).take (i + 1)) t = qall ((qrows g).take i) t ++ if r.table == t then [r.mod] else []) := qall_next (L := qrows g) (t := t) (i := i) (r := r.mod) (by simp [qrows, hr])
      have hlt2 : (i : Int) < (g.length : Int) := by omega
      have HOne : Hid (r.cv.oneCell' = true) := hci.one
      clear hr hci
      by_cases ht : r.table = t
      · have f1 : (r.table == t) = true := by rw [beq_iff_eq]; exact ht
        have HB := Lib.hid (Bk.new wr 91 #[Value.int .i64 r.table, .int .i64 r.key, r.cv])
        have HO3 : Hid (∀ u ∈ [Value.int .i64 r.table, .int .i64 r.key, r.cv], u.oneCell' = true) := by
          intro u hu
          simp only [List.mem_cons, List.not_mem_nil, or_false] at hu
          rcases hu with rfl | rfl | rfl
          · rfl
          · rfl
          · exact HOne.out
        have HF1 : Hid (qall ((qrows g).take (i + 1)) t = qall ((qrows g).take i) t ++ [r.mod]) := by
          have h1 := HN.out
          rw [f1] at h1
          exact h1
        clear ht HN
        go_wp2_with (first
          | (at_builtin
             refine wpList_app _ rfl _ _ _ rfl slQ (.slice al g'.length cl) rfl ((Fr.refl wr Nil).alloc _ |>.own Ho.out fun _ _ h => h) (.slice (some ⟨wr.heap.size, 0, none⟩) 1 1) rfl (SlAt.of_block HB.out) HO3.out (by omega) ?_
             intro a2 c2 w2 ho2 hg2 hat2)
          | fail)
        have Ho2 := Lib.hid ho2
        have Hat2 := Lib.hid (fresh_of2 hat2 Hnew.out (by have := Hf.out.size; simp; omega))
        have Hf2 := Lib.hid (Fr.app (Hf.out.alloc _) hg2 Hnew.out)
        clear ho2 hg2 hat2
        go_roundw
        case rel =>
          refine ⟨i + 1, a2, c2, g' ++ [r], by omega, by simp; omega, by go_num, by simp, ?_, ?_, ?_, ?_, Hf2.out⟩
          · rw [flatQ_append]
            have h1 := Ho2.out
            simpa [flatQ] using h1
          · have h1 := Hat2.out
            simpa using h1
          · intro x hx
            rw [List.mem_append, List.mem_singleton] at hx
            rcases hx with hx | rfl
            · exact Hsub.out x hx
            · exact List.mem_of_getElem? Hr.out
          · rw [HF1.out, ← Hq.out]
            simp [qrows]
        case measure => simp [intOf]; omega
      · have f1 : (r.table == t) = false := by rw [beq_eq_false_iff_ne]; exact ht
        have HF1 : Hid (qall ((qrows g).take (i + 1)) t = qall ((qrows g).take i) t) := by
          have h1 := HN.out
          rw [f1] at h1
          simp only [Bool.false_eq_true, if_false, List.append_nil] at h1
          exact h1
        clear ht HN
        go_wp2_with fail
        go_roundw
        case rel => exact ⟨i + 1, al, cl, g', by omega, by omega, by go_num, rfl, Ho.out, Hnew.out, Hsub.out, by rw [HF1.out]; exact Hq.out, Hf.out⟩
        case measure => simp [intOf]; omega
    · go_wp2_with fail
      go_ret
      refine ⟨al, cl, g', rfl, ⟨⟨(SlAt.of_own Ho.out).1, fun r hr => (Hl.out.cols r (Hsub.out r hr)).fr Hf.out fun _ _ h => h⟩, fun k hk => ⟨Hnew.out k hk, (World.ownsRow.lt Ho.out k hk).2⟩, Hsub.out, Hf.out⟩, ?_⟩
      rw [Hq.out, List.take_of_length_le (by simp [qrows]; omega)]
end Go.Proofs.Ytljgifjokdppgaa
