/-
  Walk of For: whom one waits for.
  No condition but sizes.
-/
import Derived.Test.YtokeciekncincabGreatPkC20
import Derived.Test.YtokeciekncincabGreatPkC21
import Derived.Test.YtokeciekncincabGreatPkC22
import Derived.Test.YtokeciekncincabGreatPkC24
namespace Go.Proofs.YtokeciekncincabGreat
open Go Go.RowKit Go.Maps Go.Sort

def CmpRet (v : Value) (xs : List Int) (w : World) (e : Ending) (w' : World) : Prop :=
  ∃ a cap, e = .returned (.slice a (Lib.compact xs).length cap) ∧ OwnInts w' 2 (.slice a (Lib.compact xs).length cap) (Lib.compact xs) ∧ (Value.slice a (Lib.compact xs).length cap).ownBlock = v.ownBlock ∧ Fr w w' (fun k => v.ownBlock = some k)
theorem compact_i64 (v : Value) (xs : List Int) (w : World) (h : OwnInts w 2 v xs) (hl : xs.length ≤ 1000000) : Calls Tryz.prog 57 #[v] w (CmpRet v xs w) := by
  rcases h.2 with ⟨rfl, hn⟩ | ⟨g, cap, cur, rfl, hb, hg, h1, h2, h3, h4⟩
  · obtain rfl : xs = [] := List.eq_nil_of_length_eq_zero hn
    refine (AnyG.slices_Compact_int_empty Tryz.laysCompactI64 none 0 w).mono ?_
    rintro e w' ⟨rfl, rfl⟩
    exact ⟨none, 0, rfl, h, rfl, Fr.refl _ _⟩
  · refine (AnyG.slices_Compact_int Tryz.laysCompactI64 g 0 cap xs w (holds_of h).1 (by omega) h1).mono ?_
    rintro e w' ⟨rfl, q, rfl⟩
    have hcl := compact_len xs
    have hts : (Lib.compact xs ++ List.replicate (xs.length - (Lib.compact xs).length) 0).length = xs.length := by simp; omega
    have ho := ownsRow_sortedI (w := w) (base := 0) (g := g) (cap := cap) (n := q) (e := 2) (os := #[]) (cur := cur) (ss := xs) hts hb hg h1 h2 h3
    have hgr := grownBy_sortedI (w := w) (g := g) (n := q) (os := #[]) (Lib.compact xs ++ List.replicate (xs.length - (Lib.compact xs).length) 0).toArray
    rw [grow_none] at ho hgr
    refine ⟨_, cap, rfl, ?_, rfl, (Fr.refl w _).grown hgr fun k hk _ => by simpa [Value.ownBlock] using hk⟩
    rcases ho.2 with ⟨e1, _⟩ | ⟨g', cap', cur', e1, f1, f2, f3, f4, f5, f6⟩
    · cases e1
    cases e1
    refine ⟨by simp, .inr ⟨_, _, cur', rfl, f1, f2, by omega, f4, f5, ?_⟩⟩
    have := congrArg (List.take (Lib.compact xs).length) f6
    rw [List.take_take, Nat.mul_one, Nat.min_eq_left hcl] at this
    rw [Nat.mul_one, this, List.map_append, List.take_left' (by simp)]
def barL (l : List (Int × Int)) (who m : Int) : List Int := (l.filter fun p => p.1 != who && !besM m p.2).map Prod.fst
def tillL (l : List (Int × Int)) (who : Int) : List Int := (l.takeWhile fun p => p.1 != who).map Prod.fst
def forL (D : LkS) (who : Int) : List Int := match wishL D.W who with
  | none => []
  | some e => Lib.compact (sortZ (barL (holdersL D.H e.s) who e.m ++ tillL (prs (queueL D.H D.W e.s)) who))
theorem barL_next {l : List (Int × Int)} {k : Nat} {p : Int × Int} (who m : Int) (h : l[k]? = some p) : barL (l.take (k + 1)) who m = barL (l.take k) who m ++ if (p.1 != who && !besM m p.2) = true then [p.1] else [] := by
  unfold barL
  rw [List.take_add_one, h, List.filter_append, List.map_append]
  refine congrArg _ ?_
  simp only [Option.toList_some, List.filter_cons, List.filter_nil]
  split <;> rfl
theorem barL_len (l : List (Int × Int)) (who m : Int) : (barL l who m).length ≤ l.length := by
  unfold barL
  rw [List.length_map]
  exact List.length_filter_le _ _
theorem tillL_stop {l : List (Int × Int)} {k : Nat} {p : Int × Int} {who : Int} (h : l[k]? = some p) (hn : ∀ q ∈ l.take k, q.1 ≠ who) (hp : p.1 = who) : tillL l who = (l.take k).map Prod.fst := by
  unfold tillL
  have hlt := (List.getElem?_eq_some_iff.1 h).1
  have h1 : l = l.take k ++ p :: l.drop (k + 1) := by
    have h2 := List.take_append_drop k l
    rw [List.drop_eq_getElem_cons hlt] at h2
    have h3 : l[k] = p := (List.getElem?_eq_some_iff.1 h).2
    rw [h3] at h2
    exact h2.symm
  conv => lhs; rw [h1]
  rw [List.takeWhile_append_of_pos (fun q hq => by simpa using hn q hq), List.takeWhile_cons, if_neg (by simp [hp]), List.append_nil]
theorem tillL_all {l : List (Int × Int)} {who : Int} (hn : ∀ q ∈ l, q.1 ≠ who) : tillL l who = l.map Prod.fst := by
  unfold tillL
  induction l with
  | nil => rfl
  | cons x l ih =>
    rw [List.takeWhile_cons, if_pos (by simpa using hn x List.mem_cons_self), List.map_cons, ih fun q hq => hn q (List.mem_cons_of_mem _ hq), List.map_cons]
def NewI (l : List Int) (w : World) (e : Ending) (w' : World) : Prop :=
  ∃ v, e = .returned v ∧ OwnInts w' 2 v l ∧ (∀ k, v.ownBlock = some k → w.heap.size ≤ k) ∧ Fr w w' Nil
set_option maxRecDepth 100000 in
set_option maxHeartbeats 8000000 in
theorem for_any {lb : Nat} {D : LkS} {S : Nat → Prop} {N : Nat} (who : Int) (w : World) (h : LkA w lb D S) (hD : DOk N D) (hN : N ≤ 100000) (hw : (Lit.int .i64 who).wf = true) :
    Calls Tryz.prog 21 #[lkp lb, .int .i64 who] w (NewI (forL D who) w) := by
  have cW := waits_any (N := N) who w h hD hN hw
  have HA := Lib.hid h
  have HD := Lib.hid hD
  have HN := Lib.hid hN
  cases hwi : wishL D.W who with
  | none =>
    have hr : forL D who = [] := by unfold forL; rw [hwi]
    have hr2 : waitsL D who = ((0, false, 0), 0, false) := by unfold waitsL; rw [hwi]
    rw [hr]
    rw [hr2] at cW
    clear h hD hN hw hwi hr hr2
    go_enter Tryz.func21, Tryz.ntmps21
    go_wp2_with fail
    refine cW.mono ?_
    rintro e w1 ⟨rfl, hf1⟩
    have HF1 := Lib.hid (hf1.alloc (.cells #[.int .i64 0, .bool false, .int .i64 0] 30))
    clear hf1 cW
    go_wp2_with fail
    go_ret
    exact ⟨_, rfl, World.ownsRow_nil _ _ _ _, (fun k hk => by cases hk), HF1.out⟩
  | some x =>
    have hr : forL D who = Lib.compact (sortZ (barL (holdersL D.H x.s) who x.m ++ tillL (prs (queueL D.H D.W x.s)) who)) := by unfold forL; rw [hwi]
    have hr2 : waitsL D who = (x.s, x.m, true) := by unfold waitsL; rw [hwi]
    rw [hr]
    rw [hr2] at cW
    have hxW := (wish_some hwi).1
    have HSW := Lib.hid (hD.wf.2 x hxW).2
    have HXM := Lib.hid (hD.inv.wm x hxW).1
    have hfq := queue_few hD x.s
    have hfh := holds_few hD x.s
    have HHM : Hid (∀ p ∈ holdersL D.H x.s, ModeOk p.2) := fun p hp => by
      obtain ⟨y, _, rfl⟩ := List.mem_map.1 hp
      exact heldL_ok hD.inv _ _
    have HQL : Hid ((prs (queueL D.H D.W x.s)).length ≤ 100000) := by
      show _ ≤ _
      rw [prs_queue, List.length_append]; omega
    have HHL : Hid ((holdersL D.H x.s).length ≤ 100000) := by
      show _ ≤ _
      rw [holdersL_len]; omega
    clear h hD hN hw hr hr2 hxW hfq hfh hwi
    obtain ⟨s, hs⟩ : ∃ s, x.s = s := ⟨_, rfl⟩
    obtain ⟨m, hm⟩ : ∃ m, x.m = m := ⟨_, rfl⟩
    rw [hs] at cW HSW HHM HQL HHL ⊢
    rw [hm] at cW HXM ⊢
    clear hs hm
    go_enter Tryz.func21, Tryz.ntmps21
    go_wp2_with fail
    refine cW.mono ?_
    rintro e w1 ⟨rfl, hf1⟩
    obtain ⟨w2, hw2⟩ : ∃ w2, w1.alloc (.cells #[.int .i64 s.1, .bool s.2.1, .int .i64 s.2.2] 30) = w2 := ⟨_, rfl⟩
    have hf2 : Fr w1 w2 Nil := by rw [← hw2]; exact (Fr.refl w1 Nil).alloc _
    have hb2 : Bk w2 w1.heap.size 30 [.int .i64 s.1, .bool s.2.1, .int .i64 s.2.2] := by rw [← hw2]; exact Bk.new w1 _ _
    have r0 : w2.cell? ⟨w1.heap.size, 0, none⟩ = some (.int .i64 s.1) := hb2.cell 0
    have r1 : w2.cell? ⟨w1.heap.size, 1, none⟩ = some (.bool s.2.1) := hb2.cell 1
    have r2 : w2.cell? ⟨w1.heap.size, 2, none⟩ = some (.int .i64 s.2.2) := hb2.cell 2
    have HF2 := Lib.hid (hf1.trans0 hf2)
    have HB2 := Lib.hid hb2
    have cH := holders_any (N := N) s w2 (HA.out.fr0 HF2.out) HD.out HN.out HSW.out
    clear hf1 hf2 hb2 cW
    generalize hhl : holdersL D.H s = hl at *
    generalize hql : prs (queueL D.H D.W s) = ql at *
    have HQE := Lib.hid hql
    clear hhl hql
    go_wp2_with fail
    refine cH.mono ?_
    rintro e w3 ⟨v3, rfl, h1, h2, h3⟩
    obtain ⟨a3, c3, rfl⟩ := h1.shape
    have H1 := Lib.hid h1
    have HF3 := Lib.hid (HF2.out.trans0 h3)
    have HB3 := Lib.hid (HB2.out.fr h3 fun h => h)
    clear h1 h2 h3 cH r0 r1 r2
    go_wp2_with fail
    go_loopw [8, 26] (fun vo vi wr => ∃ (i n : Nat) (a : Option Addr) (c : Nat), vi = .int .i64 (i : Int) ∧ i ≤ hl.length ∧ vo = .slice a n c ∧ Hid ((barL (hl.take i) who m).length = n) ∧ Hid (OwnInts wr 2 (.slice a n c) (barL (hl.take i) who m)) ∧ Hid (∀ k, (Value.slice a n c).ownBlock = some k → w3.heap.size ≤ k) ∧ Hid (Fr w3 wr Nil)) (fun _ vi _ => hl.length - (intOf vi).toNat)
    case atStart => exact ⟨0, 0, none, 0, rfl, by omega, rfl, rfl, World.ownsRow_nil _ _ _ _, (fun k hk => by cases hk), Fr.refl _ _⟩
    case round =>
      obtain ⟨i, n, a, c, rfl, hi, rfl, HLN, HO, HON, HFR⟩ := hrel
      obtain ⟨wo, rfl⟩ : ∃ wo : World, wo = wr := ⟨_, rfl⟩
      have hhl1 : hl.length ≤ 100000 := HHL.out
      by_cases hlt : i < hl.length
      · have hil : (i : Int) < (hl.length : Int) := by omega
        obtain ⟨b1, cap1, hvv, _, hcl⟩ := (H1.out.fr HFR.out fun _ _ h => h).form (by omega)
        simp only [Value.slice.injEq, true_and] at hvv
        obtain ⟨rfl, rfl⟩ := hvv
        obtain ⟨p, hp⟩ : ∃ p, hl[i]? = some p := ⟨_, List.getElem?_eq_getElem hlt⟩
        obtain ⟨p0, p1⟩ := hcl i p hp
        have cB := bes_any HXM.out (HHM.out p (List.mem_iff_getElem?.2 ⟨i, hp⟩))
        have hnx := barL_next who m hp
        have hbl := barL_len (hl.take i) who m
        rw [HLN.out, List.length_take] at hbl
        have HLB : Hid (n + 1 ≤ 1000000) := by have h9 : n + 1 ≤ 1000000 := (by omega); exact h9
        obtain ⟨px, pm⟩ := p
        obtain ⟨wa, hwa⟩ : ∃ wa, wo.alloc (.cells #[.int .i64 px, .int .u8 pm] 67) = wa := ⟨_, rfl⟩
        have hfa : Fr wo wa Nil := by rw [← hwa]; exact (Fr.refl wo Nil).alloc _
        have hba : Bk wa wo.heap.size 67 [.int .i64 px, .int .u8 pm] := by rw [← hwa]; exact Bk.new wo _ _
        have q0 : wa.cell? ⟨wo.heap.size, 0, none⟩ = some (.int .i64 px) := hba.cell 0
        have q1 : wa.cell? ⟨wo.heap.size, 1, none⟩ = some (.int .u8 pm) := hba.cell 1
        have HFA := Lib.hid hfa
        have HFRA := Lib.hid (HFR.out.trans0 hfa)
        have HOA : Hid (OwnInts wa 2 (.slice a n c) (barL (hl.take i) who m)) := HO.out.fr hfa fun _ _ h => h
        generalize hbe : besM m pm = be at *
        clear hcl hp hbl hfa hba hbe
        cases hne : (px != who) with
        | false =>
          have HNX : Hid (barL (hl.take (i + 1)) who m = barL (hl.take i) who m) := by
            show _ = _
            rw [hnx, hne]; simp
          clear hnx
          go_wp2_with fail
          go_roundw
          case rel => exact ⟨i + 1, n, a, c, by go_num, by omega, rfl, (by rw [HNX.out]; exact HLN.out), (by rw [HNX.out]; exact HOA.out), HON.out, HFRA.out⟩
          case measure => simp [intOf]; omega
        | true =>
          have HNX : Hid (barL (hl.take (i + 1)) who m = barL (hl.take i) who m ++ if be = true then [] else [px]) := by
            show _ = _
            rw [hnx, hne]; cases be <;> rfl
          clear hnx
          go_wp2_with fail
          refine (cB _).mono ?_
          rintro e w5 ⟨rfl, rfl⟩
          cases be with
          | true =>
            clear cB
            go_wp2_with fail
            go_roundw
            case rel => exact ⟨i + 1, n, a, c, by go_num, by omega, rfl, (by rw [HNX.out]; show (_ : List Int).length = _; simpa using HLN.out), (by rw [HNX.out]; show OwnInts _ _ _ _; simpa using HOA.out), HON.out, HFRA.out⟩
            case measure => simp [intOf]; omega
          | false =>
            have HOR : Hid ((w5.alloc (.cells #[.int .i64 px] 2)).ownsRow 0 2 1 (.slice a n c) n ((barL (hl.take i) who m).map (Value.int .i64))) := by
              have h1 := HOA.out
              unfold OwnInts at h1
              rw [HLN.out] at h1
              exact World.ownsRow.alloc h1 _
            have HONE := Lib.hid (one_new w5 px)
            have HON1 : Hid (∀ u ∈ [Value.int .i64 px], u.oneCell' = true) := fun u hu => by rw [List.mem_singleton] at hu; subst hu; rfl
            clear cB
            go_wp2_with (at_builtin; refine wpList_app _ rfl _ _ 40 rfl sl64 (.slice a n c) rfl HOR.out _ rfl HONE.out HON1.out HLB.out ?_)
            intro ga gc W3 ho3 hg3 hb3
            have hfw : Fr w5 W3 (fun k => (Value.slice a n c).ownBlock = some k) := ((((Fr.refl w5 Nil).alloc (.cells #[.int .i64 px] 2)).of_nil).grown hg3 fun k hk _ => hk)
            have HFW3 : Hid (Fr w3 W3 Nil) := HFRA.out.trans hfw fun k hk h => by have := HON.out k h; omega
            have HGN : Hid (∀ k, (Value.slice ga (n + 1) gc).ownBlock = some k → w3.heap.size ≤ k) := fun k hk => by
              rcases hb3 with h | h
              · exact HON.out k (h.symm.trans hk)
              · rw [h] at hk
                cases hk
                have h1 := HFRA.out.size
                omega
            have HO3 : Hid (OwnInts W3 2 (.slice ga (n + 1) gc) (barL (hl.take (i + 1)) who m)) := by
              show World.ownsRow _ _ _ _ _ _ _
              rw [HNX.out]
              simp only [Bool.false_eq_true, if_false, List.length_append, HLN.out, List.length_singleton, List.map_append, List.map_cons, List.map_nil]
              exact ho3
            have HLN3 : Hid ((barL (hl.take (i + 1)) who m).length = n + 1) := by
              show _ = _
              rw [HNX.out]
              simp only [Bool.false_eq_true, if_false, List.length_append, HLN.out, List.length_singleton]
            clear ho3 hg3 hb3 hfw
            go_wp2_with fail
            go_roundw
            case rel => exact ⟨i + 1, n + 1, ga, gc, by go_num, by omega, rfl, HLN3, HO3, HGN, HFW3⟩
            case measure => simp [intOf]; omega
      · obtain rfl : i = hl.length := by omega
        rw [List.take_length] at HLN HO
        have HFO := Lib.hid (HF3.out.trans0 HFR.out)
        have HBO := Lib.hid (HB3.out.fr HFR.out fun h => h)
        have cQ := lqueue_any (N := N) s wo (HA.out.fr0 HFO.out) HD.out HN.out HSW.out
        rw [HQE.out] at cQ
        have r0 : wo.cell? ⟨w1.heap.size, 0, none⟩ = some (.int .i64 s.1) := HBO.out.cell 0
        have r1 : wo.cell? ⟨w1.heap.size, 1, none⟩ = some (.bool s.2.1) := HBO.out.cell 1
        have r2 : wo.cell? ⟨w1.heap.size, 2, none⟩ = some (.int .i64 s.2.2) := HBO.out.cell 2
        have hbl := barL_len hl who m
        rw [HLN.out] at hbl
        have HBL : Hid ((barL hl who m).length ≤ 100000) := by
          have h9 : (barL hl who m).length ≤ 100000 := (by have := HLN.out; omega)
          exact h9
        generalize hba : barL hl who m = bl at *
        clear hba hbl
        go_wp2_with fail
        refine cQ.mono ?_
        rintro e w6 ⟨v6, rfl, h1, h2, h3⟩
        obtain ⟨a6, c6, rfl⟩ := h1.shape
        have HQ1 := Lib.hid h1
        have HF6 := Lib.hid (HFO.out.trans0 h3)
        have HO6 : Hid (OwnInts w6 2 (.slice a n c) bl) := HO.out.fr h3 fun _ _ h => h
        have HON6 : Hid (∀ k, (Value.slice a n c).ownBlock = some k → w.heap.size ≤ k) := fun k hk => by
          have h1 := HON.out k hk; have h2 := HF3.out.size; omega
        have HQN : Hid (∀ k, (Value.slice a n c).ownBlock = some k → (Value.slice a6 ql.length c6).ownBlock ≠ some k) := fun k hk hk2 => by
          have h4 := h2 k hk2; have h5 := HO.out.lt k hk; omega
        have HQN2 : Hid (∀ k, (Value.slice a6 ql.length c6).ownBlock = some k → k < w6.heap.size) := fun k hk => h1.lt hk
        clear h1 h2 h3 cQ r0 r1 r2
        go_wp2_with fail
        go_loopw [8, 51] (fun vo vj wr => ∃ (j n' : Nat) (a' : Option Addr) (c' : Nat), vj = .int .i64 (j : Int) ∧ j ≤ ql.length ∧ vo = .slice a' n' c' ∧ Hid (∀ q ∈ ql.take j, q.1 ≠ who) ∧ Hid ((bl ++ (ql.take j).map Prod.fst).length = n') ∧ Hid (OwnInts wr 2 (.slice a' n' c') (bl ++ (ql.take j).map Prod.fst)) ∧ Hid (∀ k, (Value.slice a' n' c').ownBlock = some k → w.heap.size ≤ k ∧ (Value.slice a6 ql.length c6).ownBlock ≠ some k) ∧ Hid (Fr w6 wr (fun k => w.heap.size ≤ k ∧ (Value.slice a6 ql.length c6).ownBlock ≠ some k))) (fun _ vj _ => ql.length - (intOf vj).toNat)
        case atStart =>
          refine ⟨0, n, a, c, rfl, by omega, rfl, (fun q hq => by simp at hq), ?_, ?_, fun k hk => ⟨HON6.out k hk, HQN.out k hk⟩, Fr.refl _ _⟩
          · show _ = _
            simpa using HLN.out
          · show OwnInts _ _ _ _
            simpa using HO6.out
        case round =>
          clear HO HON HFR HO6 HON6 HLN
          obtain ⟨j, n', a', c', rfl, hj, rfl, HNW, HLN, HO, HON, HFR⟩ := hrel
          obtain ⟨wi, rfl⟩ : ∃ wi : World, wi = wr := ⟨_, rfl⟩
          have hql1 : ql.length ≤ 100000 := HQL.out
          have HFWI : Hid (Fr w wi Nil) := HF6.out.trans HFR.out fun k hk h => by omega
          have hn1 := HLN.out
          rw [List.length_append, List.length_map, List.length_take] at hn1
          have HLB : Hid (n' + 1 ≤ 1000000) := by have h9 : n' + 1 ≤ 1000000 := (by have := HBL.out; omega); exact h9
          by_cases hlq : j < ql.length
          · have hjl : (j : Int) < (ql.length : Int) := by omega
            obtain ⟨b1, cap1, hvv, _, hcl⟩ := (HQ1.out.fr HFR.out fun k hk h => h.2 hk).form (by omega)
            simp only [Value.slice.injEq, true_and] at hvv
            obtain ⟨rfl, rfl⟩ := hvv
            obtain ⟨p, hp⟩ : ∃ p, ql[j]? = some p := ⟨_, List.getElem?_eq_getElem hlq⟩
            obtain ⟨p0, p1⟩ := hcl j p hp
            have HP := Lib.hid hp
            obtain ⟨px, pm⟩ := p
            obtain ⟨wa, hwa⟩ : ∃ wa, wi.alloc (.cells #[.int .i64 px, .int .u8 pm] 67) = wa := ⟨_, rfl⟩
            have hfa : Fr wi wa Nil := by rw [← hwa]; exact (Fr.refl wi Nil).alloc _
            have hba : Bk wa wi.heap.size 67 [.int .i64 px, .int .u8 pm] := by rw [← hwa]; exact Bk.new wi _ _
            have q0 : wa.cell? ⟨wi.heap.size, 0, none⟩ = some (.int .i64 px) := hba.cell 0
            have q1 : wa.cell? ⟨wi.heap.size, 1, none⟩ = some (.int .u8 pm) := hba.cell 1
            have HFA := Lib.hid hfa
            have HOA : Hid (OwnInts wa 2 (.slice a' n' c') (bl ++ (ql.take j).map Prod.fst)) := HO.out.fr hfa fun _ _ h => h
            clear hcl hp hfa hba
            cases heq : (px == who) with
            | true =>
              have HE : Hid (tillL ql who = (ql.take j).map Prod.fst) := tillL_stop HP.out HNW.out (eq_of_beq heq)
              have HOF := HOA
              have HFF := Lib.hid (HFWI.out.trans0 HFA.out)
              obtain ⟨raw, hraw⟩ : ∃ raw, (bl ++ (ql.take j).map Prod.fst) = raw := ⟨_, rfl⟩
              have HRAW : Hid (bl ++ tillL ql who = raw) := by
                show _ = _
                rw [HE.out]; exact hraw
              rw [hraw] at HLN HOF
              clear HE hraw
              have hrl : raw.length ≤ 1000000 := by have h1 := HLN.out; have h2 := HLB.out; omega
              have cS := sort_i64 (.slice a' n' c') raw wa HOF.out hrl
              have HRL := Lib.hid hrl
              have hzl := sortZ_len raw
              rw [HLN.out] at hzl
              have HZL := Lib.hid hzl
              clear hrl hzl hn1
              go_wp2_with fail
              refine cS.mono ?_
              rintro e w7 ⟨rfl, hs1, hs2⟩
              have cC := compact_i64 (.slice a' n' c') (sortZ raw) w7 hs1 (by rw [sortZ_len]; exact HRL.out)
              have HS2 := Lib.hid hs2
              clear hs1 hs2 cS
              go_wp2_with fail
              refine cC.mono ?_
              rintro e w8 ⟨va, vc, rfl, ho8, hb8, hf8⟩
              have HO8 := Lib.hid ho8
              have HB8 := Lib.hid hb8
              have HF8 := Lib.hid hf8
              clear ho8 hb8 hf8 cC
              go_wp2_with fail
              go_ret
              rw [HRAW.out]
              refine ⟨.slice va (Lib.compact (sortZ raw)).length vc, rfl, HO8.out, fun k hk => (HON.out k (HB8.out ▸ hk)).1, (HFF.out.trans HS2.out fun k hk h => ?_).trans HF8.out fun k hk h => ?_⟩
              · have := (HON.out k h).1; omega
              · have := (HON.out k h).1; omega
            | false =>
              have HNE : Hid (px ≠ who) := fun e => by rw [e] at heq; simp at heq
              have HTK : Hid (ql.take (j + 1) = ql.take j ++ [(px, pm)]) := by
                show _ = _
                rw [List.take_add_one, HP.out]; rfl
              have HOR : Hid ((wa.alloc (.cells #[.int .i64 px] 2)).ownsRow 0 2 1 (.slice a' n' c') n' ((bl ++ (ql.take j).map Prod.fst).map (Value.int .i64))) := by
                have h1 := HOA.out
                unfold OwnInts at h1
                rw [HLN.out] at h1
                exact World.ownsRow.alloc h1 _
              have HONE := Lib.hid (one_new wa px)
              have HON1 : Hid (∀ u ∈ [Value.int .i64 px], u.oneCell' = true) := fun u hu => by rw [List.mem_singleton] at hu; subst hu; rfl
              go_wp2_with (at_builtin; refine wpList_app _ rfl _ _ 40 rfl sl64 (.slice a' n' c') rfl HOR.out _ rfl HONE.out HON1.out HLB.out ?_)
              intro ga gc W3 ho3 hg3 hb3
              have hfw : Fr wa W3 (fun k => (Value.slice a' n' c').ownBlock = some k) := ((((Fr.refl wa Nil).alloc (.cells #[.int .i64 px] 2)).of_nil).grown hg3 fun k hk _ => hk)
              have HFW3 : Hid (Fr w6 W3 (fun k => w.heap.size ≤ k ∧ (Value.slice (some ⟨b1, 0, none⟩) ql.length c6).ownBlock ≠ some k)) := (HFR.out.trans HFA.out.of_nil fun _ _ h => h).trans hfw fun k hk h => HON.out k h
              have HGN : Hid (∀ k, (Value.slice ga (n' + 1) gc).ownBlock = some k → w.heap.size ≤ k ∧ (Value.slice (some ⟨b1, 0, none⟩) ql.length c6).ownBlock ≠ some k) := fun k hk => by
                rcases hb3 with h | h
                · exact HON.out k (h.symm.trans hk)
                · rw [h] at hk
                  cases hk
                  have h1 := HFWI.out.size
                  have h2 := HFA.out.size
                  have h3 := HFR.out.size
                  refine ⟨by omega, fun h4 => ?_⟩
                  have h5 := HQN2.out _ h4
                  omega
              have HO3 : Hid (OwnInts W3 2 (.slice ga (n' + 1) gc) (bl ++ (ql.take (j + 1)).map Prod.fst)) := by
                show World.ownsRow _ _ _ _ _ _ _
                have h1 := HLN.out
                rw [HTK.out, List.map_append, ← List.append_assoc, List.length_append, h1, List.map_append (l₁ := bl ++ (ql.take j).map Prod.fst)]
                simpa using ho3
              have HLN3 : Hid ((bl ++ (ql.take (j + 1)).map Prod.fst).length = n' + 1) := by
                show _ = _
                rw [HTK.out, List.map_append, ← List.append_assoc, List.length_append, HLN.out]; rfl
              have HNW3 : Hid (∀ q ∈ ql.take (j + 1), q.1 ≠ who) := fun q hq => by
                rw [HTK.out] at hq
                rcases List.mem_append.1 hq with hq | hq
                · exact HNW.out q hq
                · rw [List.mem_singleton] at hq; subst hq; exact HNE.out
              clear ho3 hg3 hb3 hfw heq hn1
              go_wp2_with fail
              go_roundw
              case rel => exact ⟨j + 1, n' + 1, ga, gc, by go_num, by omega, rfl, HNW3, HLN3, HO3, HGN, HFW3⟩
              case measure => simp [intOf]; omega
          · obtain rfl : j = ql.length := by omega
            have hnw := HNW.out
            rw [List.take_length] at hnw
            have HE : Hid (tillL ql who = (ql.take ql.length).map Prod.fst) := by
              show _ = _
              rw [List.take_length]; exact tillL_all hnw
            have HOF := HO
            have HFF := HFWI
            clear hnw
            obtain ⟨raw, hraw⟩ : ∃ raw, (bl ++ (ql.take ql.length).map Prod.fst) = raw := ⟨_, rfl⟩
            have HRAW : Hid (bl ++ tillL ql who = raw) := by
              show _ = _
              rw [HE.out]; exact hraw
            rw [hraw] at HLN HOF
            clear HE hraw
            have hrl : raw.length ≤ 1000000 := by have h1 := HLN.out; have h2 := HLB.out; omega
            have cS := sort_i64 (.slice a' n' c') raw wi HOF.out hrl
            have HRL := Lib.hid hrl
            have hzl := sortZ_len raw
            rw [HLN.out] at hzl
            have HZL := Lib.hid hzl
            clear hrl hzl hn1
            go_wp2_with fail
            refine cS.mono ?_
            rintro e w7 ⟨rfl, hs1, hs2⟩
            have cC := compact_i64 (.slice a' n' c') (sortZ raw) w7 hs1 (by rw [sortZ_len]; exact HRL.out)
            have HS2 := Lib.hid hs2
            clear hs1 hs2 cS
            go_wp2_with fail
            refine cC.mono ?_
            rintro e w8 ⟨va, vc, rfl, ho8, hb8, hf8⟩
            have HO8 := Lib.hid ho8
            have HB8 := Lib.hid hb8
            have HF8 := Lib.hid hf8
            clear ho8 hb8 hf8 cC
            go_wp2_with fail
            go_ret
            rw [HRAW.out]
            refine ⟨.slice va (Lib.compact (sortZ raw)).length vc, rfl, HO8.out, fun k hk => (HON.out k (HB8.out ▸ hk)).1, (HFF.out.trans HS2.out fun k hk h => ?_).trans HF8.out fun k hk h => ?_⟩
            · have := (HON.out k h).1; omega
            · have := (HON.out k h).1; omega
end Go.Proofs.YtokeciekncincabGreat
