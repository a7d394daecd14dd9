/-
  slices.Backward over entries: its contract as an iterator; the marks that ranges over functions leave.
  Rows without what is noted: in which order entries are taken back. Blocks of tables are cells. No walk.
  Undoing in plain lists: what a change, and its taking back, do.
  No condition.
-/
import Derived.Test.YtgpekgnhbccnoaaGreatPkZb25
import Derived.RangeFuncNested
import Derived.RangeFuncBound
import Derived.RangeFuncCalls
import Derived.RangeFuncLeaves
import Derived.Shelf.Abstract
import Derived.Shelf.RegionOpen
import Derived.OwnWalkIn
import Derived.TacticsInMore
import Derived.LoopNIn
import Derived.LoopIn
import Derived.Laws.EntriesVeiled
import Derived.Test.YtgpekgnhbccnoaaGreatPkZb26
import Derived.Test.YtgpekgnhbccnoaaGreatPkZb27
import Derived.Test.YtgpekgnhbccnoaaGreatPkZb10
namespace Go.Proofs.YtgpekgnhbccnoaaGreat
open Go Go.RowKit Go.Shelf

attribute [local go_sem] Oper.semAt_some

abbrev BEnt (es : List GEnt) := { p : Nat × GEnt // p.2 ∈ es }
abbrev encB {es : List GEnt} (p : BEnt es) : Array Value := #[.int .i64 (p.1.1 : Int), .agg #[.int .i64 p.1.2.table, .int .i64 p.1.2.key, p.1.2.fv]]
def atB (es : List GEnt) (h : 0 < es.length) (i : Nat) : BEnt es := if hi : i < es.length then ⟨(i, es[i]), List.getElem_mem hi⟩ else ⟨(0, es[0]), List.getElem_mem h⟩
theorem atB_in {es : List GEnt} {h : 0 < es.length} {i : Nat} (hi : i < es.length) : (atB es h i).1 = (i, es[i]) := by unfold atB; rw [dif_pos hi]
/-- What has come behind k rounds. -/
def cameB (es : List GEnt) (h : 0 < es.length) (k : Nat) : List (BEnt es) := (List.range k).map fun j => atB es h (es.length - 1 - j)
theorem cameB_succ (es : List GEnt) (h : 0 < es.length) (k : Nat) : cameB es h (k + 1) = cameB es h k ++ [atB es h (es.length - 1 - k)] := by simp [cameB, List.range_succ]
theorem cameB_len (es : List GEnt) (h : 0 < es.length) (k : Nat) : (cameB es h k).length = k := by simp [cameB]
theorem cameB_pre (es : List GEnt) (h : 0 < es.length) {k n : Nat} (hk : k ≤ n) : cameB es h k <+: cameB es h n := by
  induction n with
  | zero => obtain rfl : k = 0 := by omega
            exact List.prefix_refl _
  | succ n ih =>
    by_cases e : k = n + 1
    · subst e; exact List.prefix_refl _
    · exact (ih (by omega)).trans ⟨_, (cameB_succ es h n).symm⟩
theorem cameB_mods (es : List GEnt) (h : 0 < es.length) : (cameB es h es.length).map (fun p => p.1.2.mod) = (es.map GEnt.mod).reverse := by
  refine List.ext_getElem (by simp [cameB]) fun i h1 h2 => ?_
  simp only [List.length_map, cameB_len] at h1
  simp only [cameB, List.map_map, List.getElem_map, List.getElem_range, Function.comp, List.getElem_reverse]
  rw [atB_in (show es.length - 1 - i < es.length by omega)]
  simp

/-- What a round keeps: all below B, and the iterator's box. -/
def KeepB (B Bs : Nat) (w w' : World) : Prop := Fr w w' (fun k => B ≤ k ∧ k ≠ Bs)
theorem keepB_t {B Bs : Nat} {a b c : World} (h : KeepB B Bs a b) (k : KeepB B Bs b c) : KeepB B Bs a c := Fr.transS h k
theorem keepB_b {B Bs : Nat} {w : World} (hB : B ≤ w.heap.size) (hBs : Bs < w.heap.size) (W : World) (l : Nat) (o o' : Obj) (hl : w.heap.size ≤ l) (_ : W.heap[l]? = some o) (_ : o.isCells = false) (_ : o.isWalk = false) : KeepB B Bs W (W.putObj l o') :=
  (Fr.refl W _).grown (grownBy_putObj' W l o') fun k e _ => by cases e; exact ⟨by omega, by omega⟩
theorem KeepB.nil {B Bs : Nat} {w w' : World} (h : Fr w w' Nil) : KeepB B Bs w w' := h.of_nil

set_option maxHeartbeats 400000 in
theorem backward_any (a : Option Addr) (n cap : Nat) (w : World) : Calls Tryz.prog 73 #[.slice a n cap] w fun e w' => e = .returned (.func (.func 101) #[] #[.pointer (some ⟨w.heap.size, 0, none⟩)]) ∧ w' = w.alloc (.cells #[.slice a n cap] 138) := by
  go_enter Tryz.func73, Tryz.ntmps73
  go_wp2_with fail
  go_ret
  exact ⟨rfl, rfl⟩

set_option maxRecDepth 100000 in
set_option maxHeartbeats 2000000 in
theorem backward1_in (n : Nat) (hn : 1 ≤ n) (l Bs B b cap : Nat) (es : List GEnt) (hpos : 0 < es.length) (hl : es.length ≤ 1000000) (hb : b < B) (J Jx : List (BEnt es) → World → Prop) (W : World)
    (hY : ∀ pre x W1, J pre W1 → pre.length < es.length → YieldAt Fence.wide (n - 1) Tryz.prog l (encB x) W1 fun e W' =>
      (e = .returned (.bool true) ∧ J (pre ++ [x]) W' ∧ KeepB B Bs W1 W') ∨ (e = .returned (.bool false) ∧ Jx (pre ++ [x]) W'))
    (hBs : W.cell? ⟨Bs, 0, none⟩ = some (.slice (some ⟨b, 0, none⟩) es.length cap)) (hT : W.ownsRow 0 152 3 (.slice (some ⟨b, 0, none⟩) es.length cap) es.length (es.flatMap GEnt.vals)) (h0 : J [] W) :
    CallsIn Fence.wide n Tryz.prog 101 #[.func (.yield l) #[] #[], .pointer (some ⟨Bs, 0, none⟩)] W fun e W' => (∃ v, e = .returned v) ∧
      ((∃ ys, ys = cameB es hpos es.length ∧ J ys W') ∨ (∃ pre, pre <+: cameB es hpos es.length ∧ Jx pre W')) := by
  have HT := Lib.hid hT
  have HY := Lib.hid hY
  have HBS := Lib.hid hBs
  clear hT hY
  have hn1 : (1 : Int) ≤ (es.length : Int) := by omega
  refine callsIn_of_wp Tryz.func101 rfl trivial ?_ rfl
  simp only [Tryz.ntmps101, List.size_toArray, List.length_cons, List.length_nil, Nat.reduceAdd, Nat.reduceSub, Array.replicate_succ, Array.replicate_zero, List.push_toArray, List.append_toArray, List.nil_append, List.cons_append]
  gi_wp2
  clear hBs
  gi_loopw [3] (fun vi wr => ((∃ m : Nat, m < es.length ∧ vi = .int .i64 m ∧ J (cameB es hpos (es.length - 1 - m)) wr) ∨ (vi = .int .i64 (-1) ∧ J (cameB es hpos es.length) wr)) ∧ KeepB B Bs W wr) (fun vi _ => (intOf vi + 1).toNat)
  case atStart => exact ⟨.inl ⟨es.length - 1, by omega, by go_num, by rw [show es.length - 1 - (es.length - 1) = 0 by omega]; exact h0⟩, Fr.refl _ _⟩
  case round =>
    obtain ⟨hJs, hk⟩ := hrel
    have HK := Lib.hid hk
    clear hk
    obtain ⟨wo, rfl⟩ : ∃ wo : World, wo = wr := ⟨_, rfl⟩
    rcases hJs with ⟨m, hm, rfl, hJs⟩ | ⟨rfl, hJs⟩
    · have q7 := Fr.cell HK.out HBS.out (fun h => h.2 rfl)
      have hrow : wo.ownsRow 0 152 3 (.slice (some ⟨b, 0, none⟩) es.length cap) es.length (es.flatMap GEnt.vals) := Fr.own HK.out HT.out fun k hk h => by
        simp only [Value.ownBlock, Option.some.injEq] at hk
        subst hk
        have h1 : B ≤ b := h.1
        omega
      have hg := List.getElem?_eq_getElem hm
      have hat := atB_in (h := hpos) hm
      have c0 := (SlAt.of_own hrow).1
      obtain ⟨b2, off2, cap2, hv, hc⟩ := flat_form (n := 3) (f := GEnt.vals) (fun _ => rfl) (by decide) c0 hpos
      simp only [Value.slice.injEq, Option.some.injEq, Addr.mk.injEq, true_and, and_true] at hv
      obtain ⟨⟨rfl, rfl⟩, rfl⟩ := hv
      have p0 := hc m _ hg 0 _ rfl
      have p1 := hc m _ hg 1 _ rfl
      have p2 := hc m _ hg 2 _ rfl
      simp only [Nat.add_zero, Nat.zero_add] at p0 p1 p2
      obtain ⟨ef, ec, hev⟩ := es[m].shape
      rw [hev] at p2
      obtain ⟨fn, tmps, assign, body, hy, hR⟩ := HY.out (cameB es hpos (es.length - 1 - m)) (atB es hpos m) wo hJs (by rw [cameB_len]; omega)
      dsimp only [encB] at hy
      rw [hat] at hy
      simp only [hev] at hy
      have HCS : Hid (cameB es hpos (es.length - 1 - m) ++ [atB es hpos m] = cameB es hpos (es.length - m)) := by
        have : cameB es hpos (es.length - 1 - m) ++ [atB es hpos m] = cameB es hpos (es.length - m) := by
          rw [show es.length - m = (es.length - 1 - m) + 1 by omega, cameB_succ, show es.length - 1 - (es.length - 1 - m) = m by omega]
        exact this
      generalize es[m] = e at *
      obtain ⟨et, het⟩ : ∃ x, e.table = x := ⟨_, rfl⟩
      obtain ⟨ek, hek⟩ : ∃ x, e.key = x := ⟨_, rfl⟩
      rw [het] at p0 hy
      rw [hek] at p1 hy
      have hml : (m : Int) < (es.length : Int) := by omega
      clear c0 hc hg hat hrow hev hJs het hek
      gi_wp2
      refine hR.mono ?_
      rintro e W3 (⟨rfl, hJ3, hk3⟩ | ⟨rfl, hJx3⟩)
      · have HJ3 := Lib.hid hJ3
        have HK3 := Lib.hid (keepB_t HK.out hk3)
        clear hJ3 hk3
        gi_wp2
        go_roundw
        case rel =>
          refine ⟨?_, HK3.out⟩
          have h1 := HJ3.out
          rw [HCS.out] at h1
          by_cases h0 : m = 0
          · subst h0
            exact .inr ⟨by simp, h1⟩
          · exact .inl ⟨m - 1, by omega, by go_num, by rw [show es.length - 1 - (m - 1) = es.length - m by omega]; exact h1⟩
        case measure => (simp [intOf]) <;> omega
      · gi_wp2
        refine bodyPost_ret (results_none rfl _ _ _) rfl ?_
        exact ⟨⟨_, rfl⟩, .inr ⟨_, by rw [HCS.out]; exact cameB_pre es hpos (by omega), hJx3⟩⟩
    · gi_wp2
      go_end0
      exact ⟨⟨_, rfl⟩, .inl ⟨_, rfl, hJs⟩⟩
theorem backward_stops (n : Nat) (hn : 1 ≤ n) (Bs B b cap : Nat) (es : List GEnt) (hpos : 0 < es.length) (hl : es.length ≤ 1000000) (hb : b < B) (w : World)
    (hBs : w.cell? ⟨Bs, 0, none⟩ = some (.slice (some ⟨b, 0, none⟩) es.length cap)) (hT : w.ownsRow 0 152 3 (.slice (some ⟨b, 0, none⟩) es.length cap) es.length (es.flatMap GEnt.vals)) (hB : B ≤ w.heap.size) (hBl : Bs < w.heap.size) :
    SeqStopsK Fence.wide n Tryz.prog 101 #[.pointer (some ⟨Bs, 0, none⟩)] encB (KeepB B Bs) (fun ys => ys = cameB es hpos es.length) (fun pre => pre <+: cameB es hpos es.length) es.length w := fun l J Jx W hW _ _ hY h0 => by
  have hf : Fr w W (fun k => w.heap.size ≤ k) := ⟨hW.os, hW.tape, hW.output, hW.size, fun k hk _ => hW.block k hk⟩
  exact backward1_in n hn l Bs B b cap es hpos hl hb J Jx W hY (hf.cell hBs (by simp; omega)) (hf.own hT fun k hk h1 => by
    simp only [Value.ownBlock, Option.some.injEq] at hk
    subst hk
    have h2 : w.heap.size ≤ b := h1
    omega) h0

end Go.Proofs.YtgpekgnhbccnoaaGreat
namespace Go.Proofs.YtgpekgnhbccnoaaGreat
open Go Go.RowKit

/-- Each once. -/
def once : List Int → List Int
  | [] => []
  | x :: l => if l.contains x then once l else x :: once l
theorem mem_once {x : Int} : ∀ {l : List Int}, x ∈ once l ↔ x ∈ l
  | [] => Iff.rfl
  | y :: l => by
    unfold once
    by_cases h : l.contains y = true
    · rw [if_pos h, mem_once, List.mem_cons]
      exact ⟨.inr, fun h1 => h1.elim (fun e => by rw [e]; exact List.contains_iff_mem.1 h) id⟩
    · rw [if_neg h, List.mem_cons, List.mem_cons, mem_once]
theorem once_nodup : ∀ l : List Int, (once l).Nodup
  | [] => List.Pairwise.nil
  | y :: l => by
    unfold once
    by_cases h : l.contains y = true
    · rw [if_pos h]; exact once_nodup l
    · rw [if_neg h]
      exact List.nodup_cons.2 ⟨fun hy => h (List.contains_iff_mem.2 (mem_once.1 hy)), once_nodup l⟩
/-- Who has entries, rising. -/
def keysL (L : List (Int × Ent)) : List Int := (once (L.map Prod.fst)).mergeSort fun x y => decide (x ≤ y)
theorem inc_sort {l : List Int} (h : l.Nodup) : Inc (l.mergeSort fun x y => decide (x ≤ y)) := by
  have h1 := List.pairwise_mergeSort (le := fun x y : Int => decide (x ≤ y)) (fun a b c => by simp; omega) (fun a b => by simp; omega) l
  have h2 : (l.mergeSort fun x y => decide (x ≤ y)).Nodup := (List.mergeSort_perm l _).nodup_iff.2 h
  exact (h1.and h2).imp fun {a b} h => by
    have := h.1
    simp only [decide_eq_true_eq] at this
    have := h.2
    omega
theorem keysL_inc (L : List (Int × Ent)) : Inc (keysL L) := inc_sort (once_nodup _)
theorem mem_keysL {L : List (Int × Ent)} {x : Int} : x ∈ keysL L ↔ x ∈ L.map Prod.fst := by
  unfold keysL
  rw [(List.mergeSort_perm _ _).mem_iff, mem_once]
theorem mem_ofL {L : List (Int × Ent)} {x : Int} : ofL L x ≠ [] ↔ x ∈ L.map Prod.fst := by
  constructor
  · intro h
    obtain ⟨e, he⟩ := List.exists_mem_of_ne_nil _ h
    unfold ofL at he
    obtain ⟨p, hp, _⟩ := List.mem_map.1 he
    obtain ⟨h1, h2⟩ := List.mem_filter.1 hp
    rw [beq_iff_eq] at h2
    exact List.mem_map.2 ⟨p, h1, h2⟩
  · intro h he
    obtain ⟨p, hp, rfl⟩ := List.mem_map.1 h
    have : p.2 ∈ ofL L p.1 := List.mem_map.2 ⟨p, List.mem_filter.2 ⟨hp, by simp⟩, rfl⟩
    rw [he] at this; cases this
def seqTo (L : List (Int × Ent)) (ks : List Int) : List Ent := ks.flatMap fun who => (ofL L who).reverse
def cleanSeq (L : List (Int × Ent)) : List Ent := seqTo L (keysL L)
def cleanM (M : List MTab) (L : List (Int × Ent)) : List MTab := (cleanSeq L).foldl undoE M
theorem seqTo_snoc (L : List (Int × Ent)) (ks : List Int) (who : Int) : seqTo L (ks ++ [who]) = seqTo L ks ++ (ofL L who).reverse := by simp [seqTo]
theorem seqTo_len (L : List (Int × Ent)) : ∀ ks : List Int, ks.Nodup → (seqTo L ks).length ≤ L.length
  | [], _ => by simp [seqTo]
  | x :: ks, h => by
    obtain ⟨h1, h2⟩ := List.nodup_cons.1 h
    have e : seqTo L ks = seqTo (forgetL L x) ks := by
      unfold seqTo
      have : ∀ ys : List Int, (∀ y ∈ ys, y ≠ x) → (ys.flatMap fun who => (ofL L who).reverse) = ys.flatMap fun who => (ofL (forgetL L x) who).reverse := by
        intro ys
        induction ys with
        | nil => intro _; rfl
        | cons y ys ih =>
          intro hy
          rw [List.flatMap_cons, List.flatMap_cons, ih fun z hz => hy z (by simp [hz]), forget_of, if_neg (hy y (by simp))]
      exact this ks fun y hy e => h1 (by rw [← e]; exact hy)
    have h3 := seqTo_len (forgetL L x) ks h2
    have h4 := forget_len L x
    show ((ofL L x).reverse ++ seqTo L ks).length ≤ _
    rw [List.length_append, List.length_reverse, e]
    omega
/-- What is well formed stays so. -/
theorem good_undo {N : Nat} {M : List MTab} (hg : Good M) (hf : Few N M) (hN : N < 1000000) (e : Ent) : Good (undoE M e) ∧ Few (N + 1) (undoE M e) := by
  unfold undoE
  split
  · obtain ⟨h1, h2⟩ := good_del hg hf e.1 e.2.1
    exact ⟨h1, fun T hT => Nat.le_succ_of_le (h2 T hT)⟩
  · exact good_put hg hf hN e.1 e.2.1 _
theorem good_undos : ∀ (es : List Ent) {N : Nat} {M : List MTab}, Good M → Few N M → N + es.length ≤ 1000000 → Good (es.foldl undoE M) ∧ Few (N + es.length) (es.foldl undoE M)
  | [], N, M, h1, h2, _ => ⟨h1, h2⟩
  | e :: es, N, M, h1, h2, h3 => by
    simp only [List.length_cons] at h3
    obtain ⟨g1, g2⟩ := good_undo h1 h2 (by omega) e
    have := good_undos es g1 g2 (by omega)
    rw [List.foldl_cons, List.length_cons, show N + (es.length + 1) = N + 1 + es.length by omega]
    exact this

def RowTy (e : TypeId) : Prop := e = 133 ∨ e = 134 ∨ e = 137 ∨ e = 128 ∨ e = 2
theorem Rws.cells {w : World} {rb : Nat} {M : List MTab} {S : Nat → Prop} (h : Rws w rb M S) : ∀ k, S k → ∃ c e, w.heap[k]? = some (.cells c e (0, 0)) ∧ RowTy e := by
  obtain ⟨R, rfl, h2, h3, h4, h5⟩ := h
  intro k hk
  have hk := (h5 k).1 hk
  simp only [gBlocks, tBlocks, rlBlocks, List.mem_cons, List.mem_append, List.mem_flatMap, Option.mem_toList] at hk
  rcases hk with rfl | hk | ⟨t, ht, rfl | hk | ⟨r, hr, hk⟩⟩
  · exact ⟨_, _, h2.root, .inl rfl⟩
  · obtain ⟨cur, hc⟩ := row_ty h2.own hk
    exact ⟨_, _, hc, .inr (.inl rfl)⟩
  · exact ⟨_, _, (h2.tabs t ht).blk, .inr (.inr (.inl rfl))⟩
  · obtain ⟨cur, hc⟩ := row_ty (h2.tabs t ht).rl.own hk
    exact ⟨_, _, hc, .inr (.inr (.inr (.inl rfl)))⟩
  · obtain ⟨cur, hc⟩ := row_ty ((h2.tabs t ht).rl.cols r hr) hk
    exact ⟨_, _, hc, .inr (.inr (.inr (.inr rfl)))⟩
theorem Rws.notTy {w : World} {rb : Nat} {M : List MTab} {S : Nat → Prop} (h : Rws w rb M S) {k : Nat} {c : Array Value} {e : TypeId} {f : Nat × Nat} (hk : w.heap[k]? = some (.cells c e f)) (he : ¬ RowTy e) : ¬ S k := fun hs => by
  obtain ⟨c2, e2, h1, h2⟩ := h.cells k hs
  rw [hk] at h1; cases h1
  exact he h2
end Go.Proofs.YtgpekgnhbccnoaaGreat
namespace Go.Proofs.YtgpekgnhbccnoaaGreat
open Go Go.RowKit

theorem rows_ext {l m : List (Int × List Int)} (hl : l.Pairwise fun a b => a.1 < b.1) (hm : m.Pairwise fun a b => a.1 < b.1) (h : ∀ k, (l.find? fun r => r.1 == k).map (·.2) = (m.find? fun r => r.1 == k).map (·.2)) : l = m := by
  have none_of : ∀ {l : List (Int × List Int)} {k : Int}, (∀ r ∈ l, k < r.1) → (l.find? fun r => r.1 == k) = none := fun hk => List.find?_eq_none.2 fun r hr hq => by have := hk r hr; rw [beq_iff_eq] at hq; omega
  induction l generalizing m with
  | nil =>
    cases m with
    | nil => rfl
    | cons y m => have := h y.1; simp at this
  | cons x l ih =>
    rw [List.pairwise_cons] at hl
    cases m with
    | nil => have := h x.1; simp at this
    | cons y m =>
      rw [List.pairwise_cons] at hm
      rcases Int.lt_trichotomy x.1 y.1 with hlt | heq | hgt
      · have := h x.1
        rw [none_of (l := y :: m) (fun r hr => (List.mem_cons.1 hr).elim (fun e => by rw [e]; exact hlt) fun hr => Int.lt_trans hlt (hm.1 r hr))] at this
        simp at this
      · have h0 := h x.1
        rw [List.find?_cons_of_pos (by simp), List.find?_cons_of_pos (by simp [heq])] at h0
        simp only [Option.map_some, Option.some.injEq] at h0
        have hxy : x = y := Prod.ext heq h0
        subst hxy
        congr 1
        refine ih hl.2 hm.2 fun k => ?_
        by_cases hk : x.1 = k
        · subst hk; rw [none_of hl.1, none_of hm.1]
        · have := h k
          rwa [List.find?_cons_of_neg (by simpa using hk), List.find?_cons_of_neg (by simpa using hk)] at this
      · have := h y.1
        rw [none_of (l := x :: l) (fun r hr => (List.mem_cons.1 hr).elim (fun e => by rw [e]; exact hgt) fun hr => Int.lt_trans hgt (hl.1 r hr))] at this
        simp at this
/-- Tables of 2 and 1 columns, each of at most N rows. -/
structure Ok (N : Nat) (M : List MTab) : Prop where
  good : Good M
  cols : M.map Prod.fst = [2, 1]
  few : Few N M
theorem Ok.mono {N N' : Nat} {M : List MTab} (h : Ok N M) (hn : N ≤ N') : Ok N' M := ⟨h.good, h.cols, fun T hT => Nat.le_trans (h.few T hT) hn⟩
def wid (t : Int) : Nat := if t = 0 then 2 else if t = 1 then 1 else 0
theorem two_of {M : List MTab} (h : M.map Prod.fst = [2, 1]) : ∃ a b, M = [(2, a), (1, b)] := by
  match M, h with
  | [(x, a), (y, b)], h =>
    simp only [List.map_cons, List.map_nil, List.cons.injEq, and_true] at h
    obtain ⟨rfl, rfl⟩ := h
    exact ⟨a, b, rfl⟩
theorem wid_of {M : List MTab} (h : M.map Prod.fst = [2, 1]) (t : Int) : (mtab M t).1 = wid t := by
  obtain ⟨a, b, rfl⟩ := two_of h
  unfold mtab wid
  by_cases h0 : 0 ≤ t
  · rw [if_pos h0]
    by_cases h1 : t = 0
    · subst h1; rfl
    · by_cases h2 : t = 1
      · subst h2; rfl
      · rw [if_neg h1, if_neg h2, List.getElem?_eq_none (by simp; omega)]; rfl
  · rw [if_neg h0, if_neg (by omega), if_neg (by omega)]
theorem ok_ext {N N' : Nat} {M M' : List MTab} (h : Ok N M) (h' : Ok N' M') (hg : ∀ t k, mget (mtab M t) k = mget (mtab M' t) k) : M = M' := by
  obtain ⟨a, b, rfl⟩ := two_of h.cols
  obtain ⟨c, d, rfl⟩ := two_of h'.cols
  have e1 : a = c := rows_ext (h.good.tabs (2, a) (by simp)).1.sorted (h'.good.tabs (2, c) (by simp)).1.sorted fun k => hg 0 k
  have e2 : b = d := rows_ext (h.good.tabs (1, b) (by simp)).1.sorted (h'.good.tabs (1, d) (by simp)).1.sorted fun k => hg 1 k
  rw [e1, e2]
theorem map_set {M : List MTab} {i : Nat} {T : MTab} (h : ∀ T0, M[i]? = some T0 → T0.1 = T.1) : (M.set i T).map Prod.fst = M.map Prod.fst := by
  refine List.ext_getElem? fun j => ?_
  rw [List.getElem?_map, List.getElem?_map, List.getElem?_set]
  by_cases e : i = j
  · subst e
    rw [if_pos rfl]
    split
    · rename_i hi
      rw [List.getElem?_eq_getElem hi]
      simp only [Option.map_some, Option.some.injEq]
      exact (h _ (List.getElem?_eq_getElem hi)).symm
    · rename_i hi
      rw [List.getElem?_eq_none (by omega)]
  · rw [if_neg e]
theorem mtab_at {M : List MTab} {i : Int} (h : (mtab M i).1 ≠ 0) : M[i.toNat]? = some (mtab M i) := by
  unfold mtab at *
  split at h
  · rename_i h0
    rw [if_pos h0]
    cases hi : M[i.toNat]? with
    | none => rw [hi] at h; exact absurd rfl h
    | some T => rfl
  · exact absurd rfl h
theorem fsts_put (M : List MTab) (i k : Int) (xs : List Int) : (mput M i k xs).1.map Prod.fst = M.map Prod.fst := by
  unfold mput
  split
  · rfl
  · rename_i hc
    rw [not_or] at hc
    exact map_set fun T0 h => by rw [mtab_at hc.1] at h; cases h; rfl
theorem fsts_del (M : List MTab) (i k : Int) : (mdel M i k).1.map Prod.fst = M.map Prod.fst := by
  unfold mdel
  split
  · rfl
  · rename_i hc
    split
    · exact map_set fun T0 h => by rw [mtab_at hc] at h; cases h; rfl
    · rfl
theorem Ok.put {N : Nat} {M : List MTab} (h : Ok N M) (hN : N < 1000000) (i k : Int) (xs : List Int) : Ok (N + 1) (mput M i k xs).1 := by
  obtain ⟨h1, h2⟩ := good_put h.good h.few hN i k xs
  exact ⟨h1, (fsts_put M i k xs).trans h.cols, h2⟩
theorem Ok.del {N : Nat} {M : List MTab} (h : Ok N M) (i k : Int) : Ok N (mdel M i k).1 := by
  obtain ⟨h1, h2⟩ := good_del h.good h.few i k
  exact ⟨h1, (fsts_del M i k).trans h.cols, h2⟩
theorem Ok.undo {N : Nat} {M : List MTab} (h : Ok N M) (hN : N < 1000000) (e : Ent) : Ok (N + 1) (undoE M e) := by
  unfold undoE
  split
  · exact (h.del _ _).mono (Nat.le_succ _)
  · exact h.put hN _ _ _
theorem Ok.undos : ∀ (es : List Ent) {N : Nat} {M : List MTab}, Ok N M → N + es.length ≤ 1000000 → Ok (N + es.length) (es.foldl undoE M)
  | [], N, M, h1, _ => h1
  | e :: es, N, M, h1, h3 => by
    simp only [List.length_cons] at h3
    have := Ok.undos es (h1.undo (by omega) e) (by omega)
    rw [List.foldl_cons, List.length_cons, show N + (es.length + 1) = N + 1 + es.length by omega]
    exact this
/-- What is got behind a change. -/
theorem get_put {M : List MTab} {i k : Int} {xs : List Int} (h0 : (mtab M i).1 ≠ 0) (hx : xs.length = (mtab M i).1) (j key : Int) : mget (mtab (mput M i k xs).1 j) key = if i = j ∧ k = key then some xs else mget (mtab M j) key := by
  by_cases e : i = j ∧ k = key
  · rw [if_pos e]
    obtain ⟨rfl, rfl⟩ := e
    unfold mput
    rw [if_neg (by simp [h0, hx])]
    show mget (mtab (M.set i.toNat _) i) k = _
    rw [mtab_set_self h0, mget_put_self]
  · rw [if_neg e, keep_put e]
theorem get_del {M : List MTab} {i k : Int} (h0 : (mtab M i).1 ≠ 0) (j key : Int) : mget (mtab (mdel M i k).1 j) key = if i = j ∧ k = key then none else mget (mtab M j) key := by
  by_cases e : i = j ∧ k = key
  · rw [if_pos e]
    obtain ⟨rfl, rfl⟩ := e
    unfold mdel
    rw [if_neg h0]
    split
    · show mget (mtab (M.set i.toNat _) i) k = _
      rw [mtab_set_self h0, mget_del_self]
    · rename_i hn
      simpa using hn
  · rw [if_neg e, keep_del e]
/-- An entry that may be taken back. -/
def EntW (e : Ent) : Prop := wid e.1 ≠ 0 ∧ ∀ xs, e.2.2 = some xs → xs.length = wid e.1
theorem get_undo {M : List MTab} {e : Ent} (hc : M.map Prod.fst = [2, 1]) (he : EntW e) (j key : Int) : mget (mtab (undoE M e) j) key = if e.1 = j ∧ e.2.1 = key then e.2.2 else mget (mtab M j) key := by
  have hw := wid_of hc e.1
  unfold undoE
  split
  · rename_i hn
    rw [get_del (by rw [hw]; exact he.1), hn]
  · rename_i xs hs
    rw [get_put (by rw [hw]; exact he.1) (by rw [hw]; exact he.2 xs hs), hs]
theorem ent_w {N : Nat} {M : List MTab} (h : Ok N M) {t : Int} (ht : wid t ≠ 0) (k : Int) : EntW (entOf M t k) := by
  refine ⟨ht, fun xs hx => ?_⟩
  have hw := wid_of h.cols t
  have hm := mtab_mem (M := M) (i := t) (by rw [hw]; exact ht)
  have hx : mget (mtab M t) k = some xs := hx
  unfold mget at hx
  cases hr : (mtab M t).2.find? fun r => r.1 == k with
  | none => rw [hr] at hx; cases hx
  | some r =>
    rw [hr] at hx
    cases hx
    show r.2.length = wid t
    rw [← hw]
    exact (h.good.tabs _ hm).1.width r (List.mem_of_find?_eq_some hr)

/-- A change: even ones put, odd ones delete. -/
def colsU (t n : Int) : List Int := if t = 0 then [n, n] else [n]
def chg (M : List MTab) (even : Bool) (t k n : Int) : List MTab := if even then (mput M t k (colsU t n)).1 else (mdel M t k).1
theorem Ok.chg {N : Nat} {M : List MTab} (h : Ok N M) (hN : N < 1000000) (b : Bool) (t k n : Int) : Ok (N + 1) (chg M b t k n) := by
  unfold Proofs.YtgpekgnhbccnoaaGreat.chg
  split
  · exact h.put hN _ _ _
  · exact (h.del _ _).mono (Nat.le_succ _)
theorem colsU_len {t n : Int} (h : wid t ≠ 0) : (colsU t n).length = wid t := by
  unfold wid at *
  unfold colsU
  by_cases h0 : t = 0
  · simp [h0]
  · by_cases h1 : t = 1
    · simp [h1]
    · simp [h0, h1] at h
theorem get_chg {M : List MTab} (hc : M.map Prod.fst = [2, 1]) (b : Bool) {t : Int} (ht : wid t ≠ 0) (k n j key : Int) : mget (mtab (chg M b t k n) j) key = if t = j ∧ k = key then (if b then some (colsU t n) else none) else mget (mtab M j) key := by
  have hw := wid_of hc t
  unfold chg
  cases b with
  | true => rw [if_pos rfl, get_put (by rw [hw]; exact ht) (by rw [hw]; exact colsU_len ht)]; rfl
  | false => rw [if_neg (by simp), get_del (by rw [hw]; exact ht)]; rfl
/-- A change, taken back. -/
theorem undo_chg {N : Nat} {M : List MTab} (h : Ok N M) (hN : N < 999999) (b : Bool) {t : Int} (ht : wid t ≠ 0) (k n : Int) : undoE (chg M b t k n) (entOf M t k) = M := by
  have h1 := h.chg (by omega) b t k n
  refine ok_ext (h1.undo (by omega) _) h fun j key => ?_
  rw [get_undo h1.cols (ent_w h ht k)]
  show (if t = j ∧ k = key then mget (mtab M t) k else _) = _
  by_cases e : t = j ∧ k = key
  · rw [if_pos e, e.1, e.2]
  · rw [if_neg e, get_chg h.cols b ht, if_neg e]
/-- Another row's is taken back: it matters not when. -/
theorem undo_comm {N : Nat} {M : List MTab} (h : Ok N M) (hN : N < 999999) (b : Bool) {t : Int} (ht : wid t ≠ 0) (k n : Int) {e : Ent} (he : EntW e) (hk : e.2.1 ≠ k) : undoE (chg M b t k n) e = chg (undoE M e) b t k n := by
  have h1 := h.chg (by omega) b t k n
  have h2 := h.undo (by omega) e
  refine ok_ext (h1.undo (by omega) _) (h2.chg (by omega) b t k n) fun j key => ?_
  rw [get_undo h1.cols he, get_chg h.cols b ht, get_chg h2.cols b ht, get_undo h.cols he]
  by_cases e1 : e.1 = j ∧ e.2.1 = key
  · rw [if_pos e1, if_pos e1, if_neg (fun e2 => hk (e1.2.trans e2.2.symm))]
  · rw [if_neg e1, if_neg e1]
theorem undos_comm (b : Bool) {t : Int} (ht : wid t ≠ 0) (k n : Int) : ∀ (es : List Ent) {N : Nat} {M : List MTab}, Ok N M → N + es.length < 999999 → (∀ e ∈ es, EntW e ∧ e.2.1 ≠ k) → es.foldl undoE (chg M b t k n) = chg (es.foldl undoE M) b t k n
  | [], _, _, _, _, _ => rfl
  | e :: es, N, M, h, hN, he => by
    simp only [List.length_cons] at hN
    have h1 := he e (by simp)
    rw [List.foldl_cons, List.foldl_cons, undo_comm h (by omega) b ht k n h1.1 h1.2]
    exact undos_comm b ht k n es (h.undo (by omega) e) (by omega) fun x hx => he x (by simp [hx])
/-- Entries of a single number. -/
theorem clean_one {L : List (Int × Ent)} (h : ∀ p ∈ L, p.1 = 1) (M : List MTab) : cleanM M L = (ofL L 1).reverse.foldl undoE M := by
  have hk : keysL L = if L = [] then [] else [1] := by
    refine inc_ext (keysL_inc L) (by split <;> simp [Inc]) fun x => ?_
    rw [mem_keysL]
    cases L with
    | nil => simp
    | cons p L =>
      rw [if_neg (by simp)]
      simp only [List.mem_map, List.mem_singleton]
      constructor
      · rintro ⟨q, hq, rfl⟩; exact h q hq
      · rintro rfl; exact ⟨p, by simp, h p (by simp)⟩
  unfold cleanM cleanSeq seqTo
  rw [hk]
  split
  · rename_i hn; subst hn; rfl
  · simp
end Go.Proofs.YtgpekgnhbccnoaaGreat
