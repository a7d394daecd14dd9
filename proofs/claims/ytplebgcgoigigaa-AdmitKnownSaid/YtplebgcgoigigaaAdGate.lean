/-
  Walks of May, Enter, Leave, New.
  No condition but sizes.
-/
import Derived.Test.YtplebgcgoigigaaAdRoom
namespace Go.Proofs.Ytplebgcgoigigaa
open Go Go.RowKit Go.Maps Go.Shelf

def clash (n : Nd) (p : Int × Nd) : Bool := (p.2.proc == n.proc) && (p.2.single || n.single)
def roomFor (r : CapD) (n : Nd) : Bool := decide (1 ≤ r.n) && decide (n.l ≤ r.l) && decide (n.u ≤ r.u)
def mayP (c : CapD) (M : List (Int × Nd)) (n : Nd) : Bool := n.may && (!M.any (clash n)) && roomFor (roomOf c M) n
theorem any_mid (f : Int × Nd → Bool) (A B : List (Int × Nd)) (x : Int × Nd) : (A ++ x :: B).any f = (f x || (A ++ B).any f) := by
  simp only [List.any_append, List.any_cons]
  cases A.any f <;> cases f x <;> rfl

set_option maxRecDepth 100000 in
set_option maxHeartbeats 2000000 in
theorem gmay_any (gb bm : Nat) (c : CapD) (M : List (Int × Nd)) (n : Nd) (w : World) (h : GateAt w gb bm c M) (hc : c.wf) :
    Calls Try.prog 11 #[.pointer (some ⟨gb, 0, none⟩), encN n] w fun e w' => e = .returned (.bool (mayP c M n)) ∧ Fr w w' Nil := by
  have H := Lib.hid h
  have HC := Lib.hid hc
  have HBN := Lib.hid (bk_at w 27 #[.int .i64 n.proc, .bool n.single, .int .i64 n.l, .int .i64 n.u] _ rfl)
  clear h hc
  go_enter Try.func11, Try.ntmps11
  go_wp2_with fail
  refine (may_any n _).mono ?_
  rintro e w1 ⟨rfl, hf1⟩
  have hfa : Fr w w1 Nil := ((Fr.refl w Nil).alloc _).trans0 hf1
  have H1 := Lib.hid (H.out.fr0 hfa)
  have HBN1 := Lib.hid (HBN.out.fr hf1 fun h => h)
  have HF1 := Lib.hid hfa
  clear hf1 hfa H HBN
  generalize hs : w.heap.size = sz at *
  have HS := Lib.hid hs
  clear hs
  cases hm : n.may with
  | false =>
    have HR : Hid (mayP c M n = false) := by
      have : mayP c M n = false := by unfold mayP; rw [hm]; rfl
      exact this
    clear hm
    go_wp2_with fail
    go_ret
    exact ⟨by rw [HR.out]; rfl, HF1.out⟩
  | true =>
    have HMY := Lib.hid hm
    clear hm
    have q3 := H1.out.1.cell 3
    go_wp2_with (at_range; refine wpList_map_range _ rfl _ 54 rfl 2 27 Try.keyI64 Try.underlying54 intKey bm M rfl H1.out.2 ?_; intro w2 hr2 hf2 hs2)
    have Hr2 := Lib.hid hr2
    have Hf2 := Lib.hid hf2
    clear hr2 hf2 hs2 q3
    go_frame
    go_loopw [6] (fun _ wr => ∃ L, RangeAt Try.prog 2 ikey encN wr bm w1.heap.size M L ∧ M.any (clash n) = L.any (clash n) ∧ Fr w1 wr Nil) (fun _ wr => wr.rangeLeft bm w1.heap.size)
    case atStart => exact ⟨M, Hr2.out, rfl, Hf2.out⟩
    case round =>
      clear Hr2 Hf2
      obtain ⟨L, hr, ha, hf⟩ := hrel
      have Hr := Lib.hid hr
      have Ha := Lib.hid ha
      have Hf := Lib.hid hf
      clear hr ha hf
      go_wp2_with (at_next; refine wpList_map_next _ rfl _ rfl 2 Try.keyI64 intKey ival Try.invI64 bm w1.heap.size M L rfl Hr.out ?_ ?_)
      · intro hL
        have HAN : Hid (M.any (clash n) = false) := by
          have : M.any (clash n) = false := by rw [Ha.out, hL]; rfl
          exact this
        have H2 := Lib.hid (H1.out.fr0 Hf.out)
        have HBN2 := Lib.hid (HBN1.out.fr Hf.out fun h => h)
        have HF2 := Lib.hid (HF1.out.trans0 Hf.out)
        clear hL Hr Ha Hf H1 HBN1 HF1
        go_wp2_with fail
        refine (room_any gb bm c M _ H2.out HC.out).mono ?_
        rintro e w3 ⟨rfl, hf3⟩
        have HR : Hid (mayP c M n = roomFor (roomOf c M) n) := by
          have : mayP c M n = roomFor (roomOf c M) n := by unfold mayP; rw [HMY.out, HAN.out]; rfl
          exact this
        have HF3 := Lib.hid (HF2.out.trans0 hf3)
        have hb3 := (HBN2.out.fr hf3 fun h => h).alloc (.cells #[.int .i64 (roomOf c M).n, .int .i64 (roomOf c M).l, .int .i64 (roomOf c M).u] 23)
        have q0 := hb3.cell 2
        have q1 := hb3.cell 3
        generalize roomOf c M = r at *
        clear hf3 H2 HBN2 HF2 HAN HMY hb3
        by_cases h1 : 1 ≤ r.n
        · by_cases h2 : n.l ≤ r.l
          · go_wp2_with fail
            go_ret
            refine ⟨congrArg (fun z => Ending.returned (.bool z)) ?_, HF3.out.alloc _⟩
            rw [HR.out]
            unfold roomFor
            rw [decide_eq_true h1, decide_eq_true h2]
            rfl
          · go_wp2_with fail
            go_ret
            refine ⟨congrArg (fun z => Ending.returned (.bool z)) ?_, HF3.out.alloc _⟩
            rw [HR.out]
            unfold roomFor
            rw [decide_eq_false (show ¬ n.l ≤ r.l by omega)]
            simp
        · go_wp2_with fail
          go_ret
          refine ⟨congrArg (fun z => Ending.returned (.bool z)) ?_, HF3.out.alloc _⟩
          rw [HR.out]
          unfold roomFor
          rw [decide_eq_false (show ¬ 1 ≤ r.n by omega)]
          simp
      · intro x d A B w3 hL hr3 hf3 hs3 hlt hen
        have HAN : Hid (M.any (clash n) = (clash n (x, d) || (A ++ B).any (clash n))) := by
          have : M.any (clash n) = (clash n (x, d) || (A ++ B).any (clash n)) := by rw [Ha.out, hL, any_mid]
          exact this
        have Hr3 := Lib.hid (hr3.fr0 ((Fr.refl w3 Nil).alloc (.cells #[.int .i64 d.proc, .bool d.single, .int .i64 d.l, .int .i64 d.u] 27)))
        have Hlt : Hid ((w3.alloc (.cells #[.int .i64 d.proc, .bool d.single, .int .i64 d.l, .int .i64 d.u] 27)).rangeLeft bm w1.heap.size < wr.rangeLeft bm w1.heap.size) := by
          have : (w3.alloc (.cells #[.int .i64 d.proc, .bool d.single, .int .i64 d.l, .int .i64 d.u] 27)).rangeLeft bm w1.heap.size < wr.rangeLeft bm w1.heap.size := by
            rw [hr3.left ((Fr.refl w3 Nil).alloc _) (fun h => h) fun h => h]; exact hlt
          exact this
        have hf4 : Fr w1 w3 Nil := Hf.out.trans hf3 fun j hj hj2 => by omega
        have Hf4 := Lib.hid (hf4.alloc (.cells #[.int .i64 d.proc, .bool d.single, .int .i64 d.l, .int .i64 d.u] 27))
        have hb3 := (HBN1.out.fr hf4 fun h => h).alloc (.cells #[.int .i64 d.proc, .bool d.single, .int .i64 d.l, .int .i64 d.u] 27)
        have q0 := hb3.cell 0
        have q1 := hb3.cell 1
        clear hL hr3 hf3 hlt hf4 hb3 Hf Hr Ha
        obtain ⟨dp, ds, dl, du⟩ := d
        by_cases h1 : dp = n.proc
        · subst h1
          cases hds : ds with
          | true =>
            have HR : Hid (mayP c M n = false) := by
              have : mayP c M n = false := by unfold mayP; rw [HAN.out]; unfold clash; simp [hds]
              exact this
            subst hds
            go_wp2_with fail
            go_ret
            exact ⟨by rw [HR.out]; rfl, HF1.out.trans0 Hf4.out⟩
          | false =>
            cases hns : n.single with
            | true =>
              have HR : Hid (mayP c M n = false) := by
                have : mayP c M n = false := by unfold mayP; rw [HAN.out]; unfold clash; simp [hns]
                exact this
              subst hds
              rw [hns] at q1
              go_wp2_with fail
              go_ret
              exact ⟨by rw [HR.out]; rfl, HF1.out.trans0 Hf4.out⟩
            | false =>
              have HAN2 : Hid (M.any (clash n) = (A ++ B).any (clash n)) := by
                have : M.any (clash n) = (A ++ B).any (clash n) := by rw [HAN.out]; unfold clash; simp [hds, hns]
                exact this
              subst hds
              rw [hns] at q1
              clear HAN
              go_wp2_with fail
              go_roundw
              case rel => exact ⟨A ++ B, Hr3.out, HAN2.out, Hf4.out⟩
              case measure => exact Hlt.out
        · have h1' : (dp == n.proc) = false := by rw [beq_eq_false_iff_ne]; exact h1
          have HAN2 : Hid (M.any (clash n) = (A ++ B).any (clash n)) := by
            have : M.any (clash n) = (A ++ B).any (clash n) := by rw [HAN.out]; unfold clash; simp [h1]
            exact this
          clear HAN
          go_wp2_with fail
          go_roundw
          case rel => exact ⟨A ++ B, Hr3.out, HAN2.out, Hf4.out⟩
          case measure => exact Hlt.out
end Go.Proofs.Ytplebgcgoigigaa
