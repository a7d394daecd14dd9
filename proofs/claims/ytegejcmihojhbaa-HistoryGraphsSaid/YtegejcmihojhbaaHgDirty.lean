/-
  Walk of Dirty: was anything touched that one wrote who was undone?
  No condition but sizes.
-/
import Derived.Test.YtegejcmihojhbaaHgDirtyP
import Derived.Test.YtegejcmihojhbaaHsGraph
namespace Go.Proofs.Ytegejcmihojhbaa
open Go Go.RowKit Go.Shelf Go.Maps

attribute [local go_sem] Oper.semAt_some

structure DInv (w : World) (l : List AnsD) (tv : Value) (R mb ab Bs : Nat) (pre : List Pair) (W : World) : Prop where
  at_ : Bk W ab 63 [.map (some mb)]
  map : ∃ n, W.ownsMap Try.prog 2 (plainElem (H := Unit) Try.prog 3) mb n (badOf l l.length)
  res : Bk W R 4 [.bool false]
  tbox : Bk W Bs 23 [tv]
  no : NoHit l pre
  fr : Fr w W Nil
theorem DInv.turn {w : World} {l : List AnsD} {tv : Value} {R mb ab Bs B : Nat} {pre : List Pair} {W W' : World} {row : Option Nat} (h : DInv w l tv R mb ab Bs pre W) (hg : W.grownBy W' row) (hw : w.heap.size ≤ B) (hmb : mb < B) (hr : ∀ r, row = some r → B ≤ r ∧ ∃ o : Obj, W.heap[r]? = some o ∧ o.isCells = false) : DInv w l tv R mb ab Bs pre W' := by
  have hf : Fr W W' (fun k => row = some k) := (Fr.refl W _).grown hg fun k hk _ => hk
  have hcell : ∀ k c e f, W.heap[k]? = some (.cells c e f) → ¬ (row = some k) := by
    intro k c e f hc hk
    obtain ⟨_, o, ho, hn⟩ := hr k hk
    rw [hc] at ho; cases ho; cases hn
  obtain ⟨n, hm⟩ := h.map
  exact ⟨h.at_.fr hf (hcell _ _ _ _ h.at_), ⟨n, hm.kept hg (fun e => by have := (hr _ e.symm).1; omega)⟩, h.res.fr hf (hcell _ _ _ _ h.res), h.tbox.fr hf (hcell _ _ _ _ h.tbox), h.no, h.fr.grown hg fun k hk hlt => by have := (hr k hk).1; omega⟩
theorem DInv.alloc {w : World} {l : List AnsD} {tv : Value} {R mb ab Bs : Nat} {pre : List Pair} {W : World} (h : DInv w l tv R mb ab Bs pre W) (o : Obj) : DInv w l tv R mb ab Bs pre (W.alloc o) := by
  obtain ⟨n, hm⟩ := h.map
  exact ⟨h.at_.alloc o, ⟨n, hm.alloc o⟩, h.res.alloc o, h.tbox.alloc o, h.no, h.fr.alloc o⟩
theorem DInv.skip {w : World} {l : List AnsD} {tv : Value} {R mb ab Bs : Nat} {pre : List Pair} {W : World} {p : Pair} (h : DInv w l tv R mb ab Bs pre W) (hp : hitW l p.1 = false) : DInv w l tv R mb ab Bs (pre ++ [p]) W := ⟨h.at_, h.map, h.res, h.tbox, h.no.snoc hp, h.fr⟩
/-- A round has found one. -/
def DHit (w : World) (l : List AnsD) (R : Nat) (pre : List Pair) (W : World) : Prop := (∃ p ∈ pre, hitW l p.1 = true) ∧ Bk W R 4 [.bool true] ∧ Fr w W Nil
theorem DHit.turn {w : World} {l : List AnsD} {R B : Nat} {pre : List Pair} {W W' : World} {row : Option Nat} (h : DHit w l R pre W) (hg : W.grownBy W' row) (hw : w.heap.size ≤ B) (hr : ∀ r, row = some r → B ≤ r ∧ ∃ o : Obj, W.heap[r]? = some o ∧ o.isCells = false) : DHit w l R pre W' := by
  have hf : Fr W W' (fun k => row = some k) := (Fr.refl W _).grown hg fun k hk _ => hk
  refine ⟨h.1, h.2.1.fr hf fun hk => ?_, h.2.2.grown hg fun k hk hlt => by have := (hr k hk).1; omega⟩
  obtain ⟨_, o, ho, hn⟩ := hr _ hk
  have hb := h.2.1
  unfold Bk at hb
  rw [hb] at ho; cases ho; cases hn
theorem wf_near {c : Int} {k : Nat} (h0 : 0 ≤ c) (h1 : c ≤ k) (hk : k ≤ 1000) : (Lit.int .i64 (c + 1)).wf = true := by
  simp [Lit.wf, IntKind.min, IntKind.max, IntKind.signed, IntKind.bits]; omega
theorem fr_ret {w W : World} {D : Nat} {o : Obj} (h : Fr w W Nil) (hD : w.heap.size ≤ D) : Fr w (W.putObj D o) Nil :=
  h.grown (grownBy_putObj' W D o) fun k e hk => by cases e; omega

set_option maxRecDepth 100000 in
set_option maxHeartbeats 4000000 in
theorem dirty_any (la : Option Addr) (lcap : Nat) (l : List AnsD) (ta : Option Addr) (tcap : Nat) (ts : List TouchD) (w : World) (ha : AnsAt w (.slice la l.length lcap) l) (hll : l.length ≤ 1000) (ht : TouchesAt w (.slice ta ts.length tcap) ts) (htl : ts.length ≤ 1000) (htc : ts.length ≤ tcap) :
    Calls Try.prog 25 #[.slice la l.length lcap, .slice ta ts.length tcap] w fun e w' => e = .returned (.bool (dirtyB l ts)) ∧ Fr w w' Nil := by
  have hmm := @run_makeMap Try.prog
  have HA := Lib.hid ha
  have HT := Lib.hid ht
  have HTB := Lib.hid (fun h => SlAt.lt ht (by decide) h)
  clear ha ht
  refine (callsIn_wide (n := 5)).1 ?_
  refine callsIn_of_wp_marks Try.func25 rfl trivial ?_ rfl
  simp only [Try.ntmps25, List.size_toArray, List.length_cons, List.length_nil, Nat.reduceAdd, Nat.reduceSub, Array.replicate_succ, Array.replicate_zero, List.push_toArray, List.append_toArray, List.nil_append, List.cons_append]
  gi_wp2
  have hm0 := ((World.ownsMap_made (w.alloc (.cells #[.bool false] 4)) Try.prog 2 (plainElem (H := Unit) Try.prog 3)).alloc (.cells #[.map (some (w.heap.size + 1))] 63))
  have hb0 := (Bk.new ((w.alloc (.cells #[.bool false] 4)).alloc (.map #[] 0)) 63 #[.map (some (w.heap.size + 1))])
  have hr0 := ((Bk.new w 4 #[.bool false]).alloc (.map #[] 0)).alloc (.cells #[.map (some (w.heap.size + 1))] 63)
  simp only [World.size_alloc] at hm0 hb0
  have Hm0 := Lib.hid hm0
  have Hb0 := Lib.hid hb0
  have Hr0 := Lib.hid hr0
  clear hm0 hb0 hr0
  gi_loopw [7, 12] (fun _ vi wr => ∃ k n : Nat, k ≤ l.length ∧ n ≤ k ∧ vi = .int .i64 k ∧ wr.ownsMap Try.prog 2 (plainElem (H := Unit) Try.prog 3) (w.heap.size + 1) n (badOf l k) ∧ Bk wr (w.heap.size + 2) 63 [.map (some (w.heap.size + 1))] ∧ Bk wr w.heap.size 4 [.bool false] ∧ Fr w wr Nil) (fun _ vi _ => l.length - (intOf vi).toNat)
  case atStart =>
    exact ⟨0, 0, by omega, by omega, rfl, Hm0.out, Hb0.out, Hr0.out, (((Fr.refl w Nil).alloc _).alloc _).alloc _⟩
  case round =>
    clear Hm0 Hb0 Hr0
    obtain ⟨k, n, hk, hnk, rfl, hown, hbk, hres, hf⟩ := hrel
    have Hbk := Lib.hid hbk
    have Hf := Lib.hid hf
    have Hres := Lib.hid hres
    have Hown := Lib.hid hown
    have q0 := hbk.cell 0
    clear hbk hf hres hown
    by_cases hlt : k < l.length
    · obtain ⟨ab, aoff, acap2, hv, hc⟩ := flat_form (n := 5) (f := AnsD.vals) (fun _ => rfl) (by decide) (SlAt.fr0 HA.out Hf.out) (by omega)
      simp only [Value.slice.injEq, true_and] at hv
      obtain ⟨rfl, rfl⟩ := hv
      have hit := List.getElem?_eq_getElem hlt
      generalize l[k] = t at hit
      have c0 := hc k _ hit 0 _ rfl
      have c1 := hc k _ hit 1 _ rfl
      have c2 := hc k _ hit 2 _ rfl
      have c3 := hc k _ hit 3 _ rfl
      have c4 := hc k _ hit 4 _ rfl
      simp only [Nat.add_zero] at c0
      have HIT := Lib.hid hit
      have hki : (k : Int) < (l.length : Int) := by omega
      obtain ⟨tw, tt, tr, tk, toa, ton, toc, tok⟩ := t
      simp only at c0 c1 c2 c3 c4
      have hfa : Fr wr (wr.alloc (.cells #[.int .i64 tw, .int .i64 tt, .int .i64 tr, .bool tk, .slice toa ton toc] 74)) Nil := (Fr.refl wr Nil).alloc _
      have z0 := hfa.cell q0 (fun h => h)
      have Hfa := Lib.hid hfa
      clear hc hit hfa
      cases hcd : (tr == 0) with
      | true =>
        have hcn : (tr != 0) = false := by simp [bne, hcd]
        have HMS := Lib.hid (badOf_skip HIT.out hcd)
        clear hcd
        gi_wp2
        go_roundw
        case rel => exact ⟨k + 1, n, by omega, by omega, by go_num, by rw [HMS.out]; exact Hown.out.alloc _, Hbk.out.alloc _, Hres.out.alloc _, Hf.out.alloc _⟩
        case measure => simp [intOf]; omega
      | false =>
        have hcn : (tr != 0) = true := by simp [bne, hcd]
        have HMS := Lib.hid (badOf_put HIT.out hcd)
        have hz := Try.zeroValue3
        have hwk := Maps.keyOf_int_mk Try.underlying2 tok
        have HWK := Lib.hid hwk
        have HC1 : Hid (∀ c : Int, (badOf l k).atKey (.int .i64 tw) (.lit (.int .i64 0)) = .lit (.int .i64 c) → c = cntB l k tw) := fun c h => lit_inj (h.symm.trans (badOf_at l k tw hk))
        obtain ⟨hb1, hb2⟩ := cntB_bd l k tw
        generalize cntB l k tw = cn at *
        clear hcd hwk
        gi_wp2_with (first
          | (gi_at_lookup; refine wpListIn_lookup_own_int _ rfl _ _ 63 rfl 2 3 .i64 (Maps.int_keyed Try.underlying2) Try.underlying63 Try.underlying3 (hz _) (w.heap.size + 1) n _ rfl (Hown.out.alloc _) _ _ rfl HWK.out ?_; intro c1 hat1 _; obtain rfl := HC1.out c1 hat1; clear hat1)
          | (gi_at_mapUpdate; refine wpListIn_mapUpdate_own _ rfl _ _ _ 63 rfl 2 3 (Maps.int_keyed Try.underlying2) Try.underlying63 _ (w.heap.size + 1) n _ rfl (Hown.out.alloc _) (by unfold maxLen; omega) _ _ _ rfl rfl HWK.out _ [] (plainElem_int Try.underlying3 (wf_near hb1 hb2 (by omega))) ?_; intro w1 hown1 hgrow1))
        have Hown1 := Lib.hid hown1
        have Hgrow1 := Lib.hid hgrow1
        clear hown1 hgrow1
        go_roundw
        case rel =>
          exact ⟨k + 1, n + 1, by omega, by omega, by go_num, by rw [HMS.out]; exact Hown1.out, (Hbk.out.alloc _).fr ((Fr.refl _ (fun j => some (w.heap.size + 1) = some j)).grown Hgrow1.out fun j hj _ => hj) (fun h => by simp at h), (Hres.out.alloc _).fr ((Fr.refl _ (fun j => some (w.heap.size + 1) = some j)).grown Hgrow1.out fun j hj _ => hj) (fun h => by simp at h), (Hf.out.alloc _).grown Hgrow1.out fun j hj hlt => by cases hj; omega⟩
        case measure => simp [intOf]; omega
    · obtain rfl : k = l.length := by omega
      gi_wp2
      refine ⟨trivial, ?_⟩
      refine (callsIn_wide.2 (ahead_any _ _ _ _)).mono ?_
      rintro e w' ⟨rfl, rfl⟩
      gi_wp2
      have hws := Hf.out.size
      have hlr : w.heap.size + 2 < wr.heap.size := Hbk.out.lt
      obtain ⟨W0, hW0⟩ : ∃ W0, wr.alloc (.cells #[.slice ta ts.length tcap] 23) = W0 := ⟨_, rfl⟩
      have hs0 : W0.heap.size = wr.heap.size + 1 := by rw [← hW0]; simp
      have hI0 : DInv w l (.slice ta ts.length tcap) w.heap.size (w.heap.size + 1) (w.heap.size + 2) wr.heap.size [] W0 := by
        rw [← hW0]
        exact ⟨Hbk.out.alloc _, ⟨n, Hown.out.alloc _⟩, Hres.out.alloc _, Bk.new wr _ _, NoHit.nil _, Hf.out.alloc _⟩
      have HTW0 : Hid (TouchesAt W0 (.slice ta ts.length tcap) ts) := SlAt.fr0 HT.out hI0.fr
      have HI0 := Lib.hid hI0
      rw [hW0]
      have HS0 := Lib.hid hs0
      clear hI0 hW0 hs0 q0
      refine wpIn_rangeFunc_ownH (F := Fence.wide) rfl (by decide) (gf := 37) (lb := #[.pointer (some ⟨wr.heap.size, 0, none⟩)]) rfl trivial (enters_of Try.func37 (by kernel_rfl) rfl)
        (ahead_stops _ (by decide) wr.heap.size w.heap.size ta tcap ts (by omega) htc HTB.out W0 (HI0.out.tbox.cell 0) HTW0.out (by rw [HS0.out]; omega) (by rw [HS0.out]; omega)) keep_t (keep_b (by rw [HS0.out]; omega) (by rw [HS0.out]; omega)) (Below.refl _ _) (fun _ => rfl)
        (fun pre W => DInv w l (.slice ta ts.length tcap) w.heap.size (w.heap.size + 1) (w.heap.size + 2) wr.heap.size pre W)
        (fun c pre W => c = .ret ∧ DHit w l w.heap.size pre W)
        (fun pre A C row hs hg hr => hs.turn hg (B := W0.heap.size) (by rw [HS0.out]; omega) (by rw [HS0.out]; omega) hr)
        (fun c pre A C row hs hg hr => ⟨hs.1, hs.2.turn hg (B := W0.heap.size) (by rw [HS0.out]; omega) hr⟩)
        HI0.out
        (fun x a' W => ∃ Ba, Bk W Ba 46 x.1.vals ∧ a' = { tmps := #[.slice la l.length lcap, .slice ta ts.length tcap, undef, undef, .pointer (some ⟨w.heap.size, 0, none⟩), .pointer (some ⟨w.heap.size + 2, 0, none⟩), undef, u7, .pointer (some ⟨Ba, 0, none⟩), .map (some (w.heap.size + 1)), .slice la l.length lcap, .int .i64 (l.length : Int), .int .i64 (l.length : Int), .bool false, u14, u15, u16, u17, u18, u19, u20, u21, u22, u23, u24, .slice ta ts.length tcap, .func (.func 37) #[] #[.pointer (some ⟨wr.heap.size, 0, none⟩)], x.1.val, x.2.val, undef, undef, undef, undef, undef, undef, undef, undef, undef], defers := [] })
        (fun x a' _ A C row hs hg hr => by
          obtain ⟨Ba, h1, h3⟩ := hs
          refine ⟨Ba, (hg.block Ba h1.lt fun e2 => ?_).trans h1, h3⟩
          obtain ⟨_, o, ho, hn⟩ := hr Ba e2.symm
          unfold Bk at h1
          rw [h1] at ho; cases ho; cases hn)
        ?assign ?body ?done ?stop
      case assign =>
        rintro l2 pre x W K hi hK
        gi_wp2
        exact hK _ _ ((KeepsOthers.alloc _ _).from _) (Keep.nil ((Fr.refl _ _).alloc _)) (hi.alloc _) ⟨W.heap.size, Bk.new W _ _, rfl⟩
      case body =>
        rintro l2 pre x a' W hl _ hI ⟨Ba, hA, rfl⟩ hlt
        have q0 := hI.at_.cell 0
        have q2 := (TouchAt.box hA).who
        have q3 := (TouchAt.box hA).wrote
        have q4 := hI.res.cell 0
        have q5 := hI.res.free 0
        have HI := Lib.hid hI
        obtain ⟨n2, hmap⟩ := hI.map
        have Hmap := Lib.hid hmap
        have hhc := hit_cnt l x.1
        have hk1 := Maps.keyOf_int_mk Try.underlying2 x.1.ok
        have HK1 := Lib.hid hk1
        have hz := Try.zeroValue3
        have HC1 : Hid (∀ c : Int, (badOf l l.length).atKey (.int .i64 x.1.who) (.lit (.int .i64 0)) = .lit (.int .i64 c) → c = cntB l l.length x.1.who) := fun c h => lit_inj (h.symm.trans (badOf_at l l.length x.1.who (Nat.le_refl _)))
        clear hk1 hA hI hl hmap
        cases hw : x.1.wrote with
        | false =>
          rw [hw] at hhc q3
          have HH : Hid (hitW l x.1 = false) := by rw [hhc]; exact rfl
          clear hhc hw
          gi_wp2
          exact ⟨⟨Nat.le_refl _, fun k o _ hk _ => hk⟩, Keep.nil (Fr.refl _ _), HI.out.skip HH.out⟩
        | true =>
          rw [hw, Bool.true_and] at hhc
          rw [hw] at q3
          generalize cntB l l.length x.1.who = cn at *
          cases hd : decide (0 < cn) with
          | false =>
            rw [hd] at hhc
            have HH := Lib.hid hhc
            clear hhc hw
            obtain ⟨c1, hrun, hat1, _⟩ := Hmap.out.lookup_int (Maps.int_keyed Try.underlying2) Try.underlying63 Try.underlying3 (hz _) HK1.out
            obtain rfl := HC1.out c1 hat1
            clear hat1
            gi_wp2
            exact ⟨⟨Nat.le_refl _, fun k o _ hk _ => hk⟩, Keep.nil (Fr.refl _ _), HI.out.skip HH.out⟩
          | true =>
            rw [hd] at hhc
            have HH := Lib.hid hhc
            clear hhc hw
            obtain ⟨c1, hrun, hat1, _⟩ := Hmap.out.lookup_int (Maps.int_keyed Try.underlying2) Try.underlying63 Try.underlying3 (hz _) HK1.out
            obtain rfl := HC1.out c1 hat1
            clear hat1
            gi_wp2
            refine ⟨(KeepsOthers.setCell _ _ _).from _, rfl, ⟨x, by simp, HH.out⟩, HI.out.res.set 0 _, HI.out.fr.setCell (p := ⟨w.heap.size, 0, none⟩) (fun h => absurd h (Nat.lt_irrefl _)) _⟩
      case done =>
        rintro D xs W hD rfl hI hDW
        have HDB := Lib.hid (NoHit.done hI.no)
        have HR := Lib.hid hI.res
        have HF := Lib.hid hI.fr
        have HDW := Lib.hid hDW
        have HD : Hid (w.heap.size ≤ D) := by
          have : w.heap.size ≤ D := by have := HS0.out; omega
          exact this
        have q4 := hI.res.cell 0
        have q5 := hI.res.free 0
        clear hI hDW hD
        gi_wp2
        have hK' := (KeepsOthers.setCell W ⟨w.heap.size, 0, none⟩ (.bool false)).same D _ HDW.out rfl
        have hr := HR.out.set 0 (.bool false)
        have hc5 := cell_kept (hr.cell 0) (grownBy_putObj' _ D (.deferred none)) (fun r e => by cases e; exact ⟨_, hK', rfl⟩)
        refine ⟨by simp, .inl ⟨_, _, rfl, run_takeDeferred hK', ?_⟩⟩
        refine ⟨.bool false, ?_, by rw [HDB.out], fr_ret (HF.out.setCell (p := ⟨w.heap.size, 0, none⟩) (fun h => absurd h (Nat.lt_irrefl _)) _) HD.out⟩
        simp [results, Try.results25, go_sem, hc5]
      case stop =>
        rintro D c pre W hD hpre ⟨rfl, ⟨p, hp, hh⟩, hr, hfr⟩ hDW
        have HDB := Lib.hid (dirty_yes (hpre.subset hp) hh)
        have HD : Hid (w.heap.size ≤ D) := by
          have : w.heap.size ≤ D := by have := HS0.out; omega
          exact this
        have HFR := Lib.hid hfr
        have HR := Lib.hid hr
        have HDW := Lib.hid hDW
        clear hD hpre hp hh hr hfr hDW
        gi_wp2
        have hc5 := cell_kept (HR.out.cell 0) (grownBy_putObj' _ D (.deferred none)) (fun r e => by cases e; exact ⟨_, HDW.out, rfl⟩)
        refine ⟨by simp, .inl ⟨_, _, rfl, run_takeDeferred HDW.out, ?_⟩⟩
        refine ⟨.bool true, ?_, by rw [HDB.out], fr_ret HFR.out HD.out⟩
        simp [results, Try.results25, go_sem, hc5]
end Go.Proofs.Ytegejcmihojhbaa
