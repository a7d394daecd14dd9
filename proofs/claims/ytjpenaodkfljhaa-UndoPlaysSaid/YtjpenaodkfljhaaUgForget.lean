/-
  The document's log: walks of Forget, Of.
  No condition but sizes.
-/
import Derived.Test.YtjpenaodkfljhaaUgBack
namespace Go.Proofs.Ytjpenaodkfljhaa
open Go Go.RowKit

theorem dmods_forget (g : List DEnt) (who : Int) : dmods (g.filter (fun e => !(e.who == who))) = forgetL (dmods g) who := by
  unfold dmods forgetL
  rw [List.filter_map]
  rfl
theorem dmods_of (g : List DEnt) (who : Int) : (g.filter (fun e => e.who == who)).map (fun e => e.mod.2) = ofL (dmods g) who := by
  unfold dmods ofL
  rw [List.filter_map, List.map_map]
  rfl
set_option maxRecDepth 100000 in
set_option maxHeartbeats 2000000 in
theorem dforget_any {lb : Nat} {most : Int} {lv : Value} {g : List DEnt} (who : Int) (w : World) (h : DLogG w lb most lv g) (hl : g.length ≤ 100000) :
    Calls Try.prog 70 #[rptr lb, .int .i64 who] w fun e w' => e = .returned (.tuple #[]) ∧ DUpd w lb most lv g (forgetL (dmods g) who) w' := by
  obtain ⟨a, c, rfl, hc⟩ := h.shape
  have q1 := h.root.cell 1
  simp only [List.getElem?_cons_zero, List.getElem?_cons_succ] at q1
  have HG := Lib.hid h
  clear h
  go_enter Try.func70, Try.ntmps70
  go_wp2_with fail
  go_loopw [4, 5] (fun vo vi wr => ∃ (i n : Nat) (a2 : Option Addr) (c2 : Nat), i ≤ g.length ∧ vi = .int .i64 i ∧ vo = .slice a2 n c2 ∧ n = ((g.take i).filter (fun e => !(e.who == who))).length ∧ wr.ownsRow 0 133 5 (.slice a2 n c2) n (dvals ((g.take i).filter (fun e => !(e.who == who)))) ∧ (∀ k, (Value.slice a2 n c2).ownBlock = some k → w.heap.size ≤ k) ∧ Fr w wr Nil) (fun _ vi _ => g.length - (intOf vi).toNat)
  case atStart => exact ⟨0, 0, none, 0, by omega, rfl, rfl, rfl, World.ownsRow_nil _ _ _ _, (fun k hk => by cases hk), Fr.refl _ _⟩
  case round =>
    obtain ⟨i, n, a2, c2, hi, rfl, rfl, hn, ho, hnew, hfr⟩ := hrel
    have HO := Lib.hid ho
    have HN := Lib.hid hnew
    have HF := Lib.hid hfr
    have HLn := Lib.hid hn
    have hnl : n ≤ 100000 := by
      have := List.length_filter_le (fun e => !(e.who == who)) (g.take i)
      rw [List.length_take] at this
      omega
    have q2 := hfr.cell q1 fun h => h
    obtain ⟨wo, rfl⟩ : ∃ wo : World, wo = wr := ⟨_, rfl⟩
    clear ho hnew hn
    by_cases hlt : i < g.length
    · have hgt := List.getElem?_eq_getElem hlt
      have hts := List.take_succ_eq_append_getElem hlt
      generalize g[i] = t at hgt hts
      obtain ⟨b, off, cap, hv, p0, p1, p2, p3, p4⟩ := (HG.out.fr hfr fun _ _ h => h).cells hgt
      simp only [Value.slice.injEq, true_and] at hv
      obtain ⟨rfl, rfl⟩ := hv
      have hii : (i : Int) < (g.length : Int) := by omega
      have HC1 : Hid (t.cv.oneCell' = true) := (HG.out.ok t (List.mem_of_getElem? hgt)).ints.one
      clear hgt hfr
      by_cases hw : t.who = who
      · have HFi : Hid ((g.take (i + 1)).filter (fun e => !(e.who == who)) = (g.take i).filter (fun e => !(e.who == who))) := by
          have : (g.take (i + 1)).filter (fun e => !(e.who == who)) = (g.take i).filter (fun e => !(e.who == who)) := by
            rw [hts, List.filter_append]
            simp [hw]
          exact this
        clear hts
        subst hw
        go_wp2_with fail
        go_roundw
        case rel => exact ⟨i + 1, n, a2, c2, by omega, by go_num, rfl, by rw [HFi.out]; exact HLn.out, by rw [HFi.out]; exact HO.out, HN.out, HF.out⟩
        case measure => simp [intOf]; omega
      · have HFi : Hid ((g.take (i + 1)).filter (fun e => !(e.who == who)) = (g.take i).filter (fun e => !(e.who == who)) ++ [t]) := by
          have : (g.take (i + 1)).filter (fun e => !(e.who == who)) = (g.take i).filter (fun e => !(e.who == who)) ++ [t] := by
            rw [hts, List.filter_append]
            simp [hw]
          exact this
        have hw2 : (t.who == who) = false := by rw [beq_eq_false_iff_ne]; exact hw
        have hw3 : (t.who != who) = true := by rw [bne_iff_ne]; exact hw
        clear hts
        have HSL := Lib.hid (sl_dent wo 133 t)
        have HONE : Hid (∀ u ∈ dvals [t], u.oneCell' = true) := dvals_one fun e he => by rw [List.mem_singleton.1 he]; exact HC1.out
        have HOWN := Lib.hid (Fr.own ((Fr.refl wo Nil).alloc (.cells t.vals.toArray 133)) HO.out fun _ _ h => h)
        go_wp2_with (at_builtin; refine wpList_app _ rfl _ _ _ rfl slD (.slice a2 n c2) rfl HOWN.out _ rfl HSL.out HONE.out (by omega) ?_; intro a3 c3 w3 ho hg3 hat)
        have HO3 := Lib.hid ho
        have HN3 : Hid (∀ k, (Value.slice a3 (n + 1) c3).ownBlock = some k → w.heap.size ≤ k) := fresh_of2 hat HN.out (by have := HF.out.size; simp; omega)
        have HF3 : Hid (Fr w w3 Nil) := Fr.app (HF.out.alloc (.cells t.vals.toArray 133)) hg3 HN.out
        clear ho hg3 hat p0 p1 p2 p3 p4 q2 HSL HONE HOWN
        go_roundw
        case rel => exact ⟨i + 1, n + 1, a3, c3, by omega, by go_num, rfl, by rw [HFi.out, List.length_append, ← HLn.out]; rfl, by rw [HFi.out, dvals_append]; exact HO3.out, HN3.out, HF3.out⟩
        case measure => simp [intOf]; omega
    · obtain rfl : i = g.length := by omega
      have hAll := HLn.out
      rw [List.take_length] at hAll
      have HAll := Lib.hid hAll
      clear hAll
      have hroot := HG.out.root.fr HF.out fun h => h
      have q5 := hroot.free 1
      clear hfr
      go_wp2_with fail
      go_end0
      have ho := HO.out
      rw [List.take_length] at ho
      have hm : ∀ y ∈ g.filter (fun e => !(e.who == who)), y ∈ g := fun y hy => (List.mem_filter.1 hy).1
      have hlb := HG.out.root.lt
      obtain ⟨s1, s2⟩ := HG.out.store (HF.out.of_nil) (own_cast ho HAll.out) (fun k hk => by have := HN.out k hk; omega) (fun y hy => ⟨(HG.out.ok y (hm y hy)).fr HF.out fun _ _ h => h, fun k hk => ⟨(HG.out.neC y (hm y hy) k hk).1, fun hr => by have := HN.out k hr; have := (HG.out.ok y (hm y hy)).own.lt k hk; omega⟩⟩)
      refine ⟨rfl, _, _, s1, dmods_forget g who, fun j hj => ?_, s2⟩
      rcases hj with rfl | hj | ⟨y, hy, hj⟩
      · exact .inl (.inl rfl)
      · exact .inr (HN.out j hj)
      · exact .inl (.inr (.inr ⟨y, hm y hy, hj⟩))
def DOfRet (g : List DEnt) (who : Int) (w : World) (e : Ending) (w' : World) : Prop :=
  ∃ a c, e = .returned (.slice a (g.filter (fun e => e.who == who)).length c) ∧ w'.ownsRow 0 133 5 (.slice a (g.filter (fun e => e.who == who)).length c) (g.filter (fun e => e.who == who)).length (dvals (g.filter (fun e => e.who == who))) ∧ (∀ k, (Value.slice a (g.filter (fun e => e.who == who)).length c).ownBlock = some k → w.heap.size ≤ k) ∧ Fr w w' Nil
set_option maxRecDepth 100000 in
set_option maxHeartbeats 2000000 in
theorem dof_any {lb : Nat} {most : Int} {lv : Value} {g : List DEnt} (who : Int) (w : World) (h : DLogG w lb most lv g) (hl : g.length ≤ 100000) :
    Calls Try.prog 73 #[rptr lb, .int .i64 who] w (DOfRet g who w) := by
  obtain ⟨a, c, rfl, hc⟩ := h.shape
  have q1 := h.root.cell 1
  simp only [List.getElem?_cons_zero, List.getElem?_cons_succ] at q1
  have HG := Lib.hid h
  clear h
  go_enter Try.func73, Try.ntmps73
  go_wp2_with fail
  go_loopw [5, 6] (fun vo vi wr => ∃ (i n : Nat) (a2 : Option Addr) (c2 : Nat), i ≤ g.length ∧ vi = .int .i64 i ∧ vo = .slice a2 n c2 ∧ n = ((g.take i).filter (fun e => e.who == who)).length ∧ wr.ownsRow 0 133 5 (.slice a2 n c2) n (dvals ((g.take i).filter (fun e => e.who == who))) ∧ (∀ k, (Value.slice a2 n c2).ownBlock = some k → w.heap.size ≤ k) ∧ Fr w wr Nil) (fun _ vi _ => g.length - (intOf vi).toNat)
  case atStart => exact ⟨0, 0, none, 0, by omega, rfl, rfl, rfl, World.ownsRow_nil _ _ _ _, (fun k hk => by cases hk), Fr.refl _ _⟩
  case round =>
    obtain ⟨i, n, a2, c2, hi, rfl, rfl, hn, ho, hnew, hfr⟩ := hrel
    have HO := Lib.hid ho
    have HN := Lib.hid hnew
    have HF := Lib.hid hfr
    have HLn := Lib.hid hn
    have hnl : n ≤ 100000 := by
      have := List.length_filter_le (fun e => e.who == who) (g.take i)
      rw [List.length_take] at this
      omega
    have q2 := hfr.cell q1 fun h => h
    obtain ⟨wo, rfl⟩ : ∃ wo : World, wo = wr := ⟨_, rfl⟩
    clear ho hnew hn
    by_cases hlt : i < g.length
    · have hgt := List.getElem?_eq_getElem hlt
      have hts := List.take_succ_eq_append_getElem hlt
      generalize g[i] = t at hgt hts
      obtain ⟨b, off, cap, hv, p0, p1, p2, p3, p4⟩ := (HG.out.fr hfr fun _ _ h => h).cells hgt
      simp only [Value.slice.injEq, true_and] at hv
      obtain ⟨rfl, rfl⟩ := hv
      have hii : (i : Int) < (g.length : Int) := by omega
      have HC1 : Hid (t.cv.oneCell' = true) := (HG.out.ok t (List.mem_of_getElem? hgt)).ints.one
      clear hgt hfr
      by_cases hw : t.who = who
      · have HFi : Hid ((g.take (i + 1)).filter (fun e => e.who == who) = (g.take i).filter (fun e => e.who == who) ++ [t]) := by
          have : (g.take (i + 1)).filter (fun e => e.who == who) = (g.take i).filter (fun e => e.who == who) ++ [t] := by
            rw [hts, List.filter_append]
            simp [hw]
          exact this
        clear hts
        subst hw
        have HSL := Lib.hid (sl_dent wo 133 t)
        have HONE : Hid (∀ u ∈ dvals [t], u.oneCell' = true) := dvals_one fun e he => by rw [List.mem_singleton.1 he]; exact HC1.out
        have HOWN := Lib.hid (Fr.own ((Fr.refl wo Nil).alloc (.cells t.vals.toArray 133)) HO.out fun _ _ h => h)
        go_wp2_with (at_builtin; refine wpList_app _ rfl _ _ _ rfl slD (.slice a2 n c2) rfl HOWN.out _ rfl HSL.out HONE.out (by omega) ?_; intro a3 c3 w3 ho hg3 hat)
        have HO3 := Lib.hid ho
        have HN3 : Hid (∀ k, (Value.slice a3 (n + 1) c3).ownBlock = some k → w.heap.size ≤ k) := fresh_of2 hat HN.out (by have := HF.out.size; simp; omega)
        have HF3 : Hid (Fr w w3 Nil) := Fr.app (HF.out.alloc (.cells t.vals.toArray 133)) hg3 HN.out
        clear ho hg3 hat p0 p1 p2 p3 p4 q2 HSL HONE HOWN
        go_roundw
        case rel => exact ⟨i + 1, n + 1, a3, c3, by omega, by go_num, rfl, by rw [HFi.out, List.length_append, ← HLn.out]; rfl, by rw [HFi.out, dvals_append]; exact HO3.out, HN3.out, HF3.out⟩
        case measure => simp [intOf]; omega
      · have HFi : Hid ((g.take (i + 1)).filter (fun e => e.who == who) = (g.take i).filter (fun e => e.who == who)) := by
          have : (g.take (i + 1)).filter (fun e => e.who == who) = (g.take i).filter (fun e => e.who == who) := by
            rw [hts, List.filter_append]
            simp [hw]
          exact this
        have hw2 : (t.who == who) = false := by rw [beq_eq_false_iff_ne]; exact hw
        have hw3 : (t.who != who) = true := by rw [bne_iff_ne]; exact hw
        clear hts
        go_wp2_with fail
        go_roundw
        case rel => exact ⟨i + 1, n, a2, c2, by omega, by go_num, rfl, by rw [HFi.out]; exact HLn.out, by rw [HFi.out]; exact HO.out, HN.out, HF.out⟩
        case measure => simp [intOf]; omega
    · obtain rfl : i = g.length := by omega
      have hAll := HLn.out
      rw [List.take_length] at hAll
      have HAll := Lib.hid hAll
      clear hAll
      clear hfr
      go_wp2_with fail
      go_ret
      have ho := HO.out
      have hnw := HN.out
      rw [List.take_length] at ho
      have hA := HAll.out
      subst hA
      exact ⟨a2, c2, rfl, ho, hnw, HF.out⟩
end Go.Proofs.Ytjpenaodkfljhaa
