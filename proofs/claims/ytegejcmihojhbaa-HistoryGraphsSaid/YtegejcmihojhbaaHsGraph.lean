/-
  Walk of Graph: the graph of conflicts.
  No condition but sizes, and that who is told once.
-/
import Derived.Test.YtegejcmihojhbaaHsGSort
import Derived.Test.YtegejcmihojhbaaSinkIn
namespace Go.Proofs.Ytegejcmihojhbaa
open Go Go.RowKit Go.Shelf Go.Maps

attribute [local go_sem] Oper.semAt_some

theorem wf_small {k : Nat} (h : k ≤ 1000000000) : (Lit.int .i64 (k : Int)).wf = true := by
  simp [Lit.wf, IntKind.min, IntKind.max, IntKind.signed, IntKind.bits]; omega
theorem wf_getD {who : List Int} (hw : ∀ x ∈ who, (Lit.int .i64 x).wf = true) (k : Nat) (hk : k < who.length) : (Lit.int .i64 (who.getD k 0)).wf = true := by
  rw [show who.getD k 0 = who[k] by simp [List.getD_eq_getElem?_getD, hk]]
  exact hw _ (List.getElem_mem hk)
theorem rows_made {w w1 : World} {B : Nat} {g n : Nat} (h : w1.ownsRow 0 28 1 (.slice (some ⟨g, 0, none⟩) n n) n (madeCells (Value.slice none 0 0).cells (n * 1)).toList) :
    ∃ vs, w1.ownsRow 0 28 1 (.slice (some ⟨g, 0, none⟩) n n) n vs ∧ ∀ w2, RowsOk w2 B vs (List.replicate n []) := by
  have e : (madeCells (Value.slice none 0 0).cells (n * 1)).toList = List.replicate n (Value.slice none 0 0) := by
    rw [Nat.mul_one]; exact toList_madeCells_one _ _
  rw [e] at h
  have _ := w
  refine ⟨_, h, fun w2 => ⟨by simp, fun i xs hi => ?_, fun i j u v _ hu hv => ?_⟩⟩
  · have hl := (List.getElem?_eq_some_iff.1 hi).1
    simp at hl
    rw [List.getElem?_replicate, if_pos hl] at hi
    cases hi
    exact ⟨.slice none 0 0, by rw [List.getElem?_replicate, if_pos hl], World.ownsRow_nil _ _ _ _, fun k hk => by simp [Value.ownBlock] at hk⟩
  · have hl := (List.getElem?_eq_some_iff.1 hu).1
    simp at hl
    rw [List.getElem?_replicate, if_pos hl] at hu
    cases hu
    exact Far.nil _

theorem wpListIn_make_full {F : Fence} {m : Nat} {P : Program} (w : World) {ops : Array Oper} {rest : List Oper} {o : Oper} {a : Act} {Q : Exit → Act → World → Prop}
    (hg : o.guard = none) (l c : Operand) (t : TypeId) (hop : o.op = Op.makeSlice t l c)
    (base : Nat) (e : TypeId) (i : TypeInfo) (z : Value) (size : Nat) (h1 : P.underlying t = some (.slice e)) (h2 : P.info? e = some i) (h3 : i.zero = some z) (h4 : i.size = size)
    (kl kc : IntKind) (L C : Int) (n : Nat) (hl : a.eval l = .int kl L) (hc : a.eval c = .int kc C) (hL : L = (n : Int)) (hC : C = (n : Int)) (b2 : i.bytes * n ≤ 281474976710656) (b3 : n ≤ maxLen) (b4 : base ≤ w.heap.size)
    (hK : ∀ w', w'.ownsRow base e size (.slice (some ⟨w.heap.size, 0, none⟩) n n) n (madeCells z.cells (n * size)).toList → w.grownBy w' none → wpListIn F m P ops Q rest (a.put o.dst (.slice (some ⟨w.heap.size, 0, none⟩) n n)) w') :
    wpListIn F m P ops Q (o :: rest) a w := by
  refine wpListIn_plain hg fun K hK' => ?_
  obtain ⟨w', hrun, r1, r2⟩ := run_make_full (P := P) w base t e i z size h1 h2 h3 h4 kl kc n b2 b3 b4
  subst hL
  subst hC
  unfold Oper.wpIn
  refine ⟨?_, ?_⟩
  · simp [Oper.about, hop]
  · rw [Oper.semAt_plain F _ _ (by rw [hop]; intro c hc'; cases hc')]
    simp [execOp, hop, hl, hc, hrun, Result.andThen]
    exact hK' _ _ (hK w' r1 r2)

set_option maxHeartbeats 400000 in
theorem ahead_any (a : Option Addr) (n cap : Nat) (w : World) : Calls Try.prog 28 #[.slice a n cap] w fun e w' => e = .returned (.func (.func 37) #[] #[.pointer (some ⟨w.heap.size, 0, none⟩)]) ∧ w' = w.alloc (.cells #[.slice a n cap] 23) := by
  go_enter Try.func28, Try.ntmps28
  go_wp2_with fail
  go_ret
  exact ⟨rfl, rfl⟩

theorem frx {w w' : World} {size n : Nat} {v : Value} {cs : List Value} {S : Nat → Prop} (h : SlAt w size v n cs) (hf : Fr w w' S) (hv : 0 < n → ∀ k, v.ownBlock = some k → ¬ S k) : SlAt w' size v n cs := by
  rcases Nat.eq_zero_or_pos n with h0 | h0
  · refine ⟨h.1, h.2.imp id ?_⟩
    rintro ⟨a, cap, rfl, _⟩
    refine ⟨a, cap, rfl, fun j u hu => ?_⟩
    have := (List.getElem?_eq_some_iff.1 hu).1
    rw [h.1, h0, Nat.zero_mul] at this
    omega
  · exact h.fr hf (hv h0)
/-- What ahead hands back goes over the pairs. -/
theorem ahead_stops (n : Nat) (hn : 1 ≤ n) (Bs B : Nat) (a : Option Addr) (cap : Nat) (ts : List TouchD) (hl : ts.length ≤ 1000000) (hcap : ts.length ≤ cap) (hv : 0 < ts.length → ∀ k, (Value.slice a ts.length cap).ownBlock = some k → k < B) (w : World)
    (hBs : w.cell? ⟨Bs, 0, none⟩ = some (.slice a ts.length cap)) (hT : TouchesAt w (.slice a ts.length cap) ts) (hB : B ≤ w.heap.size) (hBl : Bs < w.heap.size) :
    SeqStopsK Fence.wide n Try.prog 37 #[.pointer (some ⟨Bs, 0, none⟩)] encP (Keep B Bs) (fun ys => ys = aheadP ts) (fun pre => pre <+: aheadP ts) (aheadP ts).length w := fun l J Jx W hW hJ _ hY h0 => by
  have hf : Fr w W (fun k => w.heap.size ≤ k) := ⟨hW.os, hW.tape, hW.output, hW.size, fun k hk _ => hW.block k hk⟩
  exact ahead1_in n hn l Bs B a cap ts hl hcap hv J Jx W hJ hY (hf.cell hBs (by simp; omega)) (frx hT hf fun h k hk => by have := hv h k hk; omega) h0

/-- The graph, its rows of the call's own. -/
def GraphRet (who : List Int) (ts : List TouchD) (w : World) (e : Ending) (w' : World) : Prop :=
  ∃ gb vs, e = .returned (.slice (some ⟨gb, 0, none⟩) who.length who.length) ∧ w.heap.size ≤ gb ∧ w'.ownsRow 0 28 1 (.slice (some ⟨gb, 0, none⟩) who.length who.length) who.length vs ∧ RowsOk w' w.heap.size vs (graphW who ts) ∧ Fr w w' Nil

set_option maxRecDepth 100000 in
set_option maxHeartbeats 4000000 in
theorem graph_in (wv : Value) (ta : Option Addr) (tcap : Nat) (who : List Int) (ts : List TouchD) (w : World) (hw : IntsAt w wv who) (hwl : who.length ≤ 1000) (hwn : who.Nodup) (hwf : ∀ x ∈ who, (Lit.int .i64 x).wf = true)
    (ht : TouchesAt w (.slice ta ts.length tcap) ts) (htl : ts.length ≤ 1000) (htc : ts.length ≤ tcap) :
    Calls Try.prog 8 #[wv, .slice ta ts.length tcap] w (GraphRet who ts w) := by
  obtain ⟨ig, hig, hz0, hz1, hz2⟩ := info_parts (P := Try.prog) (e := 28) (z := .slice none 0 0) (size := 1) (bytes := 24) (by kernel_rfl)
  obtain ⟨wa, wcap, rfl⟩ := hw.shape
  have hmm := @run_makeMap Try.prog
  have HW := Lib.hid hw
  have HT := Lib.hid ht
  have HTB := Lib.hid (fun h => SlAt.lt ht (by decide) h)
  have HWN := Lib.hid hwn
  have HWF := Lib.hid hwf
  clear hw ht hwn hwf
  have Hb1 : Hid (ig.bytes * who.length ≤ 281474976710656) := by
    have : ig.bytes * who.length ≤ 281474976710656 := by rw [hz2]; omega
    exact this
  have Hb2 : Hid (who.length ≤ maxLen) := by
    have : who.length ≤ maxLen := by unfold maxLen; omega
    exact this
  refine (callsIn_wide (n := 5)).1 ?_
  refine callsIn_of_wp_marks Try.func8 rfl trivial ?_ rfl
  simp only [Try.ntmps8, List.size_toArray, List.length_cons, List.length_nil, Nat.reduceAdd, Nat.reduceSub, Array.replicate_succ, Array.replicate_zero, List.push_toArray, List.append_toArray, List.nil_append, List.cons_append]
  gi_wp2
  have hm0 := Lib.hid ((World.ownsMap_made w Try.prog 2 (plainElem (H := Unit) Try.prog 3)).alloc (.cells #[.map (some w.heap.size)] 63))
  have hb0 := Lib.hid (Bk.new (w.alloc (.map #[] 0)) 63 #[.map (some w.heap.size)])
  gi_loopw [6, 7, 19] (fun _ _ vi wr => ∃ k : Nat, k ≤ who.length ∧ vi = .int .i64 k ∧ wr.ownsMap Try.prog 2 (plainElem (H := Unit) Try.prog 3) w.heap.size k (mapOf who k) ∧ Bk wr (w.heap.size + 1) 63 [.map (some w.heap.size)] ∧ Fr w wr Nil) (fun _ _ vi _ => who.length - (intOf vi).toNat)
  case atStart =>
    refine ⟨0, by omega, rfl, hm0.out, ?_, ((Fr.refl w Nil).alloc _).alloc _⟩
    have := hb0.out
    simpa using this
  case round =>
    obtain ⟨k, hk, rfl, hown, hbk, hf⟩ := hrel
    have Hbk := Lib.hid hbk
    have Hf := Lib.hid hf
    have q0 := hbk.cell 0
    clear hbk hf hm0 hb0
    by_cases hlt : k < who.length
    · obtain ⟨wb, woff, wcap2, hwv, hwc⟩ := (HW.out.fr Hf.out fun _ _ h => h).form (by omega)
      simp only [Value.slice.injEq, true_and] at hwv
      obtain ⟨rfl, rfl⟩ := hwv
      have hg := List.getElem?_eq_getElem hlt
      have q1 := hwc k _ hg
      have HGD : Hid (who.getD k 0 = who[k]) := by
        have : who.getD k 0 = who[k] := by simp [List.getD_eq_getElem?_getD, hlt]
        exact this
      have hwk := HWF.out _ (List.getElem_mem hlt)
      have HMS := Lib.hid (mapOf_succ who k)
      rw [HGD.out] at HMS
      generalize who[k] = x at *
      have HWK := Lib.hid hwk
      have hki : (k : Int) < (who.length : Int) := by omega
      have Hown := Lib.hid hown
      clear hwc hg hwk hown
      gi_wp2_with (gi_at_mapUpdate; refine wpListIn_mapUpdate_own _ rfl _ _ _ 63 rfl 2 3 (Maps.int_keyed Try.underlying2) Try.underlying63 _ w.heap.size k _ rfl Hown.out (by unfold maxLen; omega) _ _ _ rfl rfl (Maps.keyOf_int_mk Try.underlying2 HWK.out) _ [] (plainElem_int Try.underlying3 (wf_small (by omega))) ?_; intro w1 hown1 hgrow1)
      have Hown1 := Lib.hid hown1
      have Hgrow1 := Lib.hid hgrow1
      clear hown1 hgrow1
      go_roundw
      case rel =>
        refine ⟨k + 1, by omega, by go_num, by rw [HMS.out]; exact Hown1.out, Hbk.out.fr ((Fr.refl wr (fun j => some w.heap.size = some j)).grown Hgrow1.out fun j hj _ => hj) (fun h => by simp at h), Hf.out.grown Hgrow1.out fun j hj hlt => by cases hj; omega⟩
      case measure => simp [intOf]; omega
    · obtain rfl : k = who.length := by omega
      have Hown := Lib.hid hown
      clear hown
      gi_wp2_with (gi_at_make; refine wpListIn_make_full _ rfl _ _ 26 rfl 0 28 ig (.slice none 0 0) 1 Try.underlying26 hig hz0 hz1 _ _ _ _ who.length rfl rfl rfl rfl Hb1.out Hb2.out (Nat.zero_le _) ?_; intro w2 hown2 hgr2)
      refine ⟨trivial, ?_⟩
      refine (callsIn_wide.2 (ahead_any _ _ _ _)).mono ?_
      rintro e w' ⟨rfl, rfl⟩
      gi_wp2
      have hws := Hf.out.size
      have hf2 : Fr wr w2 Nil := (Fr.refl wr Nil).grown hgr2 fun j hj => by cases hj
      have h2s := hf2.size
      have hwgb : wr.heap.size < w2.heap.size := by
        obtain ⟨cur, hc⟩ := gb_type hown2
        exact (Array.getElem?_eq_some_iff.1 hc).1
      obtain ⟨vs0, hown3, hrk0⟩ := rows_made (w := w) (B := w.heap.size) hown2
      obtain ⟨W0, hW0⟩ : ∃ W0, (w2.alloc (.cells #[.slice (some ⟨wr.heap.size, 0, none⟩) who.length who.length] 26)).alloc (.cells #[.slice ta ts.length tcap] 23) = W0 := ⟨_, rfl⟩
      have hs0 : W0.heap.size = w2.heap.size + 2 := by rw [← hW0]; simp
      have hI0 : GInv w who (.slice ta ts.length tcap) w.heap.size (w.heap.size + 1) wr.heap.size w2.heap.size (w2.heap.size + 1) [] W0 := by
        rw [← hW0]
        have hfa : Fr wr ((w2.alloc (.cells #[.slice (some ⟨wr.heap.size, 0, none⟩) who.length who.length] 26)).alloc (.cells #[.slice ta ts.length tcap] 23)) Nil := (hf2.alloc _).alloc _
        refine ⟨Hbk.out.fr hfa fun h => h, ((Hown.out.kept hgr2 (by simp)).alloc _).alloc _, (Bk.new w2 _ _).alloc _, ?_, ⟨vs0, World.ownsRow.alloc (World.ownsRow.alloc hown3 _) _, by rw [gAcc_nil]; exact hrk0 _⟩, Hf.out.trans0 hfa⟩
        have := Bk.new (w2.alloc (.cells #[.slice (some ⟨wr.heap.size, 0, none⟩) who.length who.length] 26)) 23 #[.slice ta ts.length tcap]
        simpa using this
      have HTW0 : Hid (TouchesAt W0 (.slice ta ts.length tcap) ts) := SlAt.fr0 HT.out hI0.fr
      have HI0 := Lib.hid hI0
      have hgbw : w.heap.size ≤ wr.heap.size := hws
      rw [hW0]
      have HS0 := Lib.hid hs0
      clear hI0 hown2 hgr2 hown3 hrk0 hf2 hW0 hs0 q0
      refine wpIn_rangeFunc_ownH (F := Fence.wide) rfl (by decide) (gf := 37) (lb := #[.pointer (some ⟨w2.heap.size + 1, 0, none⟩)]) rfl trivial (enters_of Try.func37 (by kernel_rfl) rfl)
        (ahead_stops _ (by decide) (w2.heap.size + 1) w.heap.size ta tcap ts (by omega) htc HTB.out W0 (HI0.out.tbox.cell 0) HTW0.out (by rw [HS0.out]; omega) (by rw [HS0.out]; omega)) keep_t (keep_b (by rw [HS0.out]; omega) (by rw [HS0.out]; omega)) (Below.refl _ _) (fun _ => rfl)
        (fun pre W => GInv w who (.slice ta ts.length tcap) w.heap.size (w.heap.size + 1) wr.heap.size w2.heap.size (w2.heap.size + 1) pre W)
        (fun _ _ _ => False)
        (fun pre A C row hs hg hr => hs.turn hg (B := W0.heap.size) (by rw [HS0.out]; omega) (by rw [HS0.out]; omega) hr)
        (fun _ _ _ _ _ hs _ _ => hs)
        HI0.out
        (fun x a' W => ∃ Ba Bb, Bk W Ba 46 x.1.vals ∧ Bk W Bb 46 x.2.vals ∧ a' = { tmps := #[.slice wa who.length wcap, .slice ta ts.length tcap, undef, undef, .slice none 0 0, .pointer (some ⟨w.heap.size + 1, 0, none⟩), u6, u7, .pointer (some ⟨w2.heap.size, 0, none⟩), .pointer (some ⟨Ba, 0, none⟩), .pointer (some ⟨Bb, 0, none⟩), undef, undef, undef, undef, undef, .map (some w.heap.size), .slice wa who.length wcap, .int .i64 (who.length : Int), .int .i64 (who.length : Int), .bool false, u21, u22, u23, u24, u25, u26, u27, .slice wa who.length wcap, .int .i64 (who.length : Int), .slice (some ⟨wr.heap.size, 0, none⟩) who.length who.length, .slice ta ts.length tcap, .func (.func 37) #[] #[.pointer (some ⟨w2.heap.size + 1, 0, none⟩)], x.1.val, x.2.val, undef, undef, undef, undef, undef, undef, undef, undef, undef, undef, undef, undef, undef, undef, undef, undef, undef, undef, undef, undef, undef, undef, undef, undef, undef, undef, undef, undef, undef, undef, undef, undef, undef, undef, undef, undef, undef, undef, undef, undef, undef, undef, undef, undef, undef, undef, undef, undef, undef], defers := [] })
        (fun x a' _ A C row hs hg hr => by
          obtain ⟨Ba, Bb, h1, h2, h3⟩ := hs
          have hn : ∀ k c e f, A.heap[k]? = some (.cells c e f) → some k ≠ row := fun k c e f hc e2 => by
            obtain ⟨_, o, ho, hn⟩ := hr k e2.symm
            rw [hc] at ho; cases ho; cases hn
          exact ⟨Ba, Bb, (hg.block Ba h1.lt (hn _ _ _ _ h1)).trans h1, (hg.block Bb h2.lt (hn _ _ _ _ h2)).trans h2, h3⟩)
        ?assign ?body ?done ?stop
      case assign =>
        rintro l pre x W K hi hK
        gi_wp2
        have hb2 := Bk.new (W.alloc (.cells #[.int .i64 x.1.who, .int .i64 x.1.tab, .bool x.1.row, .int .i64 x.1.key, .bool x.1.wrote] 46)) 46 #[.int .i64 x.2.who, .int .i64 x.2.tab, .bool x.2.row, .int .i64 x.2.key, .bool x.2.wrote]
        simp only [World.size_alloc] at hb2
        exact hK _ _ (((KeepsOthers.alloc _ _).trans (KeepsOthers.alloc _ _)).from _) (Keep.nil (((Fr.refl _ _).alloc _).alloc _)) ((hi.alloc _).alloc _) ⟨W.heap.size, W.heap.size + 1, (Bk.new W _ _).alloc _, hb2, rfl⟩
      case body =>
        rintro l pre x a' W hl _ hI ⟨Ba, Bb, hA, hB, rfl⟩ hlt
        have q0 := hI.at_.cell 0
        have q1 := hI.gbox.cell 0
        have q2 := (TouchAt.box hA).who
        have q3 := (TouchAt.box hB).who
        have HI := Lib.hid hI
        have Hmap := Lib.hid hI.map
        have hk1 := Maps.keyOf_int_mk Try.underlying2 x.1.ok
        have hk2 := Maps.keyOf_int_mk Try.underlying2 x.2.ok
        have HK1 := Lib.hid hk1
        have HK2 := Lib.hid hk2
        clear hk1 hk2 hA hB hI hl
        have hz := Try.zeroValue3
        have hm1 := mapOf_has (who := who) (Nat.le_refl _) x.1.who
        have hm2 := mapOf_has (who := who) (Nat.le_refl _) x.2.who
        rw [List.take_length] at hm1 hm2
        by_cases hc1 : who.contains x.1.who = true
        · rw [hc1] at hm1
          have HC1 : Hid (∀ c : Int, (mapOf who who.length).atKey (.int .i64 x.1.who) (.lit (.int .i64 0)) = .lit (.int .i64 c) → c = ((posW who x.1.who : Nat) : Int)) := fun c h =>
            lit_inj (h.symm.trans (mapOf_at HWN.out (Nat.le_refl _) (by rw [List.take_length]; exact List.contains_iff_mem.1 hc1) _))
          by_cases hc2 : who.contains x.2.who = true
          · rw [hc2] at hm2
            have HC2 : Hid (∀ c : Int, (mapOf who who.length).atKey (.int .i64 x.2.who) (.lit (.int .i64 0)) = .lit (.int .i64 c) → c = ((posW who x.2.who : Nat) : Int)) := fun c h =>
              lit_inj (h.symm.trans (mapOf_at HWN.out (Nat.le_refl _) (by rw [List.take_length]; exact List.contains_iff_mem.1 hc2) _))
            obtain ⟨vs, hro, hrk⟩ := HI.out.rows
            have hpl : posW who x.1.who < who.length := List.idxOf_lt_length_of_mem (List.contains_iff_mem.1 hc1)
            obtain ⟨u, hu, hux, hun⟩ := hrk.2.1 (posW who x.1.who) _ (List.getElem?_eq_getElem (by rw [gAcc_len]; exact hpl))
            have hrow : (gAcc who pre)[posW who x.1.who]'(by rw [gAcc_len]; exact hpl) = (gAcc who pre).getD (posW who x.1.who) [] := by
              simp [List.getD_eq_getElem?_getD, show posW who x.1.who < (gAcc who pre).length by rw [gAcc_len]; exact hpl]
            rw [hrow] at hux
            have hrl := (gAcc_row who HWN.out pre _ hpl).len
            have hpi : ((posW who x.1.who : Nat) : Int) < (who.length : Int) := by omega
            obtain ⟨xs, hxs⟩ : ∃ xs, (gAcc who pre).getD (posW who x.1.who) [] = xs := ⟨_, rfl⟩
            rw [hxs] at hux hrl
            have HXS := Lib.hid hxs
            clear hrow hxs
            obtain ⟨i, hi⟩ : ∃ i, posW who x.1.who = i := ⟨_, rfl⟩
            obtain ⟨j, hj⟩ : ∃ j, posW who x.2.who = j := ⟨_, rfl⟩
            rw [hi] at hpl hu hpi HC1
            rw [hj] at HC2
            have HIE := Lib.hid hi
            have HJE := Lib.hid hj
            have q4 := World.ownsRow.cellAt hro i (by omega)
            rw [hu] at q4
            obtain ⟨ua, ucap, rfl⟩ := hux.shape
            have Hro := Lib.hid hro
            have Hrk := Lib.hid hrk
            have Hu := Lib.hid hu
            have Hux := Lib.hid hux
            have Hun := Lib.hid hun
            have HH1 := Lib.hid hc1
            have HH2 := Lib.hid hc2
            clear hro hrk hu hux hun hc1 hc2 hi hj
            gi_wp2_with (first
              | (gi_at_lookup; refine wpListIn_lookup_own_ok_int _ rfl _ _ 63 rfl 2 3 .i64 (Maps.int_keyed Try.underlying2) Try.underlying63 Try.underlying3 (hz _) w.heap.size who.length _ rfl Hmap.out _ _ rfl HK1.out ?_; intro c1 hat1 _; obtain rfl := HC1.out c1 hat1; clear hat1)
              | (gi_at_lookup; refine wpListIn_lookup_own_ok_int _ rfl _ _ 63 rfl 2 3 .i64 (Maps.int_keyed Try.underlying2) Try.underlying63 Try.underlying3 (hz _) w.heap.size who.length _ rfl Hmap.out _ _ rfl HK2.out ?_; intro c2 hat2 _; obtain rfl := HC2.out c2 hat2; clear hat2))
            refine ⟨trivial, ?_⟩
            refine (CallsIn.inRound l (callsIn_wide.2 (contains_any _ xs j _ Hux.out.at (by omega)))).mono ?_
            rintro e w5 ⟨rfl, rfl⟩
            cases hcc : xs.contains (j : Int) with
            | true =>
              have HCC := Lib.hid hcc
              clear hcc
              gi_wp2
              refine ⟨⟨Nat.le_refl _, fun k o _ hk _ => hk⟩, Keep.nil (Fr.refl _ _), HI.out.skip (skip_pos (.inr (.inr ?_)))⟩
              rw [HXS.out, HJE.out]
              exact HCC.out
            | false =>
              have HCC := Lib.hid hcc
              clear hcc
              gi_wp2
              refine wpIn_region_sink 10 (fun w' => w'.cell? ⟨w2.heap.size, 0, none⟩ = some (.slice (some ⟨wr.heap.size, 0, none⟩) who.length who.length) ∧ w'.cell? ⟨wr.heap.size, i, none⟩ = some (.slice ua xs.length ucap)) (by kernel_rfl) (by kernel_rfl) ?_
              have hS : (fun w' : World => w'.cell? ⟨w2.heap.size, 0, none⟩ = some (.slice (some ⟨wr.heap.size, 0, none⟩) who.length who.length) ∧ w'.cell? ⟨wr.heap.size, i, none⟩ = some (.slice ua xs.length ucap)) W.drew := ⟨q1, q4⟩
              clear q0 q2 q3
              refine wpAnyS_take (i := 0) (v := ?_) rfl (by kernel_rfl) (fun _ _ _ h => h) (by rfl) hS ?_ ?_
              rotate_left
              · intro w' hS'
                (try dsimp only at hS')
                go_simp <;> with_reducible rfl
              try simp only [Act.put, List.setIfInBounds_toArray, List.set_cons_zero, List.set_cons_succ]
              refine wpAnyS_take (i := 1) (v := ?_) rfl (by kernel_rfl) (fun _ _ _ h => h) (by rfl) hS ?_ ?_
              rotate_left
              · intro w' hS'
                (try dsimp only at hS')
                go_simp <;> with_reducible rfl
              try simp only [Act.put, List.setIfInBounds_toArray, List.set_cons_zero, List.set_cons_succ]
              refine wpAnyS_take (i := 2) (v := ?_) rfl (by kernel_rfl) (fun _ _ _ h => h) (by rfl) hS ?_ ?_
              rotate_left
              · intro w' hS'
                (try dsimp only at hS')
                go_simp <;> with_reducible rfl
              try simp only [Act.put, List.setIfInBounds_toArray, List.set_cons_zero, List.set_cons_succ]
              refine wpAnyS_take (i := 3) (v := ?_) rfl (by kernel_rfl) (fun _ _ _ h => h) (by rfl) hS ?_ ?_
              rotate_left
              · intro w' hS'
                (try dsimp only at hS')
                go_simp <;> with_reducible rfl
              try simp only [Act.put, List.setIfInBounds_toArray, List.set_cons_zero, List.set_cons_succ]
              refine wpAnyS_take (i := 4) (v := ?_) rfl (by kernel_rfl) (fun _ _ _ h => h) (by rfl) hS ?_ ?_
              rotate_left
              · intro w' hS'
                (try dsimp only at hS')
                go_simp <;> with_reducible rfl
              try simp only [Act.put, List.setIfInBounds_toArray, List.set_cons_zero, List.set_cons_succ]
              refine wpAnyS_take (i := 5) (v := ?_) rfl (by kernel_rfl) (fun _ _ _ h => h) (by rfl) hS ?_ ?_
              rotate_left
              · intro w' hS'
                (try dsimp only at hS')
                go_simp <;> with_reducible rfl
              try simp only [Act.put, List.setIfInBounds_toArray, List.set_cons_zero, List.set_cons_succ]
              refine wpAnyS_take (i := 6) (v := ?_) rfl (by kernel_rfl) (fun _ _ _ h => h) (by rfl) hS ?_ ?_
              rotate_left
              · intro w' hS'
                (try dsimp only at hS')
                go_simp <;> with_reducible rfl
              try simp only [Act.put, List.setIfInBounds_toArray, List.set_cons_zero, List.set_cons_succ]
              refine wpAnyS_one (i := 7) rfl (by kernel_rfl) (by decide) (by rfl) fun K hK => ?_
              go_simp
              have hF5 : Fr W (W.drew.alloc (Obj.cells #[Value.int .i64 (j : Int)] 3)) Nil := ((Fr.refl W Nil).drew).alloc _
              have hS5 : (fun w' : World => w'.cell? ⟨w2.heap.size, 0, none⟩ = some (.slice (some ⟨wr.heap.size, 0, none⟩) who.length who.length) ∧ w'.cell? ⟨wr.heap.size, i, none⟩ = some (.slice ua xs.length ucap)) (W.drew.alloc (Obj.cells #[Value.int .i64 (j : Int)] 3)) := ⟨hF5.cell q1 (fun h => h), hF5.cell q4 (fun h => h)⟩
              refine hK.out _ _ hS5 ?_
              clear hK K hS
              try simp only [Act.put, List.setIfInBounds_toArray, List.set_cons_zero, List.set_cons_succ]
              refine wpAnyS_one (i := 8) rfl (by kernel_rfl) (by decide) (by rfl) fun K hK => ?_
              have hsl := one_new W.drew 3 (Value.int .i64 (j : Int))
              refine wp_app _ _ _ _ (by rfl) Try.sltInt (.slice ua xs.length ucap) (by rfl) (hF5.own Hux.out (fun _ _ h => h)) (.slice (some ⟨W.drew.heap.size, 0, none⟩) 1 1) (by rfl) hsl (ints_one (j : Int)) (by omega) ?_
              intro a6 c6 w6 ho6 hg6 hat6
              have hF6 : Fr W w6 (fun k => (Value.slice ua xs.length ucap).ownBlock = some k) := ((Fr.refl W _).drew.alloc _).grown hg6 fun k hk _ => hk
              have hS6 : (fun w' : World => w'.cell? ⟨w2.heap.size, 0, none⟩ = some (.slice (some ⟨wr.heap.size, 0, none⟩) who.length who.length) ∧ w'.cell? ⟨wr.heap.size, i, none⟩ = some (.slice ua xs.length ucap)) w6 := ⟨hF6.cell q1 (fun h => by
                obtain ⟨cur, hc⟩ := own_type Hux.out h
                have hb := HI.out.gbox
                unfold Bk at hb
                rw [hb] at hc; simp at hc), hF6.cell q4 (fun h => by
                obtain ⟨cur, hc⟩ := own_type Hux.out h
                obtain ⟨cur2, hc2⟩ := gb_type Hro.out
                rw [hc2] at hc; simp at hc)⟩
              have HADD := Lib.hid (GInv.add' (B := W0.heap.size) HI.out hgbw Hro.out Hrk.out HIE.out HJE.out HXS.out Hu.out Hux.out Hun.out HH1.out HH2.out HCC.out ho6 hg6 (hat6.imp id fun h => h.trans (congrArg some (by show (W.alloc _).heap.size = _; simp))))
              refine hK.out _ _ hS6 ?_
              clear hK K hS5
              try simp only [Act.put, List.setIfInBounds_toArray, List.set_cons_zero, List.set_cons_succ]
              refine wpAnyS_take (i := 9) (v := ?_) rfl (by kernel_rfl) (fun _ _ _ h => h) (by rfl) hS6 ?_ ?_
              rotate_left
              · intro w' hS'
                (try dsimp only at hS')
                go_simp <;> with_reducible rfl
              try simp only [Act.put, List.setIfInBounds_toArray, List.set_cons_zero, List.set_cons_succ]
              have hro6 := hF6.own Hro.out (fun k hk hk2 => by
                cases hk
                obtain ⟨cur, hc⟩ := own_type Hux.out hk2
                obtain ⟨cur2, hc2⟩ := gb_type Hro.out
                rw [hc2] at hc; simp at hc)
              have y0 := World.ownsRow.cellAt hro6 i (by omega)
              have y1 := World.ownsRow.frozenAt hro6 i
              rw [Hu.out] at y0
              clear hS6 hF6 hF5 hsl ho6 hg6 hat6 hro6 q1 q4
              refine wpAnyS_last (i := 10) rfl (by kernel_rfl) (by decide) (by kernel_rfl) (by rfl) fun K hK => ?_
              go_simp
              refine hK.out _ _ ?_
              unfold OnlyEnd
              gi_wp2
              exact ⟨HADD.out.2.2, HADD.out.2.1, HADD.out.1⟩
          · have hc2' : who.contains x.2.who = false := by simpa using hc2
            rw [hc2'] at hm2
            have HC2 := Lib.hid hc2'
            clear hc1 hc2 hc2'
            gi_wp2_with (first
              | (gi_at_lookup; refine wpListIn_lookup_own_ok_int _ rfl _ _ 63 rfl 2 3 .i64 (Maps.int_keyed Try.underlying2) Try.underlying63 Try.underlying3 (hz _) w.heap.size who.length _ rfl Hmap.out _ _ rfl HK1.out ?_; intro c1 hat1 _; obtain rfl := HC1.out c1 hat1; clear hat1)
              | (gi_at_lookup; refine wpListIn_lookup_own_ok_int _ rfl _ _ 63 rfl 2 3 .i64 (Maps.int_keyed Try.underlying2) Try.underlying63 Try.underlying3 (hz _) w.heap.size who.length _ rfl Hmap.out _ _ rfl HK2.out ?_; intro c2 hat2 _; clear hat2))
            refine ⟨trivial, ?_⟩
            gi_wp2
            exact ⟨⟨Nat.le_refl _, fun k o _ hk _ => hk⟩, Keep.nil (Fr.refl _ _), HI.out.skip (skip_pos (.inr (.inl HC2.out)))⟩
        · have hc1' : who.contains x.1.who = false := by simpa using hc1
          rw [hc1'] at hm1
          have HC1 := Lib.hid hc1'
          clear hc1 hc1'
          generalize who.contains x.2.who = c2 at *
          gi_wp2_with (first
            | (gi_at_lookup; refine wpListIn_lookup_own_ok_int _ rfl _ _ 63 rfl 2 3 .i64 (Maps.int_keyed Try.underlying2) Try.underlying63 Try.underlying3 (hz _) w.heap.size who.length _ rfl Hmap.out _ _ rfl HK1.out ?_; intro c1 hat1 _; clear hat1)
            | (gi_at_lookup; refine wpListIn_lookup_own_ok_int _ rfl _ _ 63 rfl 2 3 .i64 (Maps.int_keyed Try.underlying2) Try.underlying63 Try.underlying3 (hz _) w.heap.size who.length _ rfl Hmap.out _ _ rfl HK2.out ?_; intro c3 hat2 _; clear hat2))
          refine ⟨trivial, ?_⟩
          gi_wp2
          exact ⟨⟨Nat.le_refl _, fun k o _ hk _ => hk⟩, Keep.nil (Fr.refl _ _), HI.out.skip (skip_pos (.inl HC1.out))⟩
      case done =>
        rintro D xs W hD rfl hI hDW
        have HSI : Hid (SInv w who.length wr.heap.size w2.heap.size D (gAcc who (aheadP ts)) W) := by
          have : SInv w who.length wr.heap.size w2.heap.size D (gAcc who (aheadP ts)) W := ⟨hI.gbox, hI.rows, hDW, hI.fr⟩
          exact this
        have HD : Hid (w.heap.size ≤ D) := by
          have : w.heap.size ≤ D := by have := HS0.out; omega
          exact this
        have HGL := Lib.hid (gAcc_len who (aheadP ts))
        have HSD := Lib.hid (sort_done HWN.out ts)
        have HRL : Hid (∀ (i : Nat) (xs : List Int), (gAcc who (aheadP ts))[i]? = some xs → xs.length ≤ 1000000) := by
          have : ∀ (i : Nat) (xs : List Int), (gAcc who (aheadP ts))[i]? = some xs → xs.length ≤ 1000000 := by
            intro i xs hi
            have hil := (List.getElem?_eq_some_iff.1 hi).1
            rw [gAcc_len] at hil
            have h1 := (gAcc_row who HWN.out (aheadP ts) i hil).len
            rw [show (gAcc who (aheadP ts)).getD i [] = xs by simp [List.getD_eq_getElem?_getD, hi]] at h1
            omega
          exact this
        generalize gAcc who (aheadP ts) = G at *
        have q1 := hI.gbox.cell 0
        clear hI hDW hD
        gi_wp2
        gi_loopw [15, 74] (fun _ vi wq => ∃ k : Nat, k ≤ who.length ∧ vi = .int .i64 k ∧ SInv w who.length wr.heap.size w2.heap.size D (sortTo G k) wq) (fun _ vi _ => who.length - (intOf vi).toNat)
        case atStart => exact ⟨0, by omega, rfl, by rw [sortTo_zero]; exact HSI.out⟩
        case round =>
          clear HSI q1
          obtain ⟨k, hk, rfl, hsi⟩ := hrel
          have HSI := Lib.hid hsi
          have q1 := hsi.gbox.cell 0
          clear hsi
          by_cases hlt : k < who.length
          · obtain ⟨vs, hro, hrk⟩ := HSI.out.rows
            have hkg : k < G.length := by rw [HGL.out]; exact hlt
            obtain ⟨u, hu, hux, hun⟩ := hrk.2.1 k _ (sortTo_at hkg)
            have HSS := Lib.hid (sortTo_succ hkg)
            have hxl := HRL.out k _ (List.getElem?_eq_getElem hkg)
            generalize G[k] = xs at *
            have q4 := World.ownsRow.cellAt hro k (by omega)
            rw [hu] at q4
            obtain ⟨ua, ucap, rfl⟩ := hux.shape
            have hki : (k : Int) < (who.length : Int) := by omega
            have Hro := Lib.hid hro
            have Hrk := Lib.hid hrk
            have Hu := Lib.hid hu
            have Hux := Lib.hid hux
            have Hun := Lib.hid hun
            clear hro hrk hu hux hun
            gi_wp2
            refine ⟨trivial, ?_⟩
            refine (callsIn_wide.2 (sort_int _ xs _ Hux.out hxl)).mono ?_
            rintro e w5 ⟨rfl, hx5, hf5⟩
            have H5 := Lib.hid (HSI.out.sort Hro.out Hrk.out Hu.out Hux.out Hun.out hx5 hf5)
            clear hx5 hf5
            gi_wp2
            go_roundw
            case rel => exact ⟨k + 1, by omega, by go_num, by rw [HSS.out]; exact H5.out⟩
            case measure => simp [intOf]; omega
          · obtain rfl : k = who.length := by omega
            gi_wp2
            refine ⟨by simp, .inl ⟨_, _, rfl, run_takeDeferred HSI.out.mark, ?_⟩⟩
            obtain ⟨vs, h1, h2, h3⟩ := HSI.out.ret (o := .deferred none) HD.out
            refine ⟨_, results_tmp rfl _ _ _, _, vs, rfl, hgbw, h1, ?_, h3⟩
            rw [← HSD.out, ← sortTo_full, HGL.out]
            exact h2
      case stop =>
        rintro D c pre W _ _ h _
        exact h.elim
end Go.Proofs.Ytegejcmihojhbaa
