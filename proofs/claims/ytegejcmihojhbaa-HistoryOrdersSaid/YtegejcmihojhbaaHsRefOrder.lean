/-
  Walk of the document's Order: the same as the program's.
  No condition but sizes.
-/
import Derived.Test.YtegejcmihojhbaaHsOrder
import Derived.Test.YtegejcmihojhbaaHsEdge
namespace Go.Proofs.Ytegejcmihojhbaa
open Go Go.RowKit

def freeB (G : List (List Int)) (o : List Nat) (i k : Nat) : Bool := !o.contains i && (List.range k).all fun j => o.contains j || !sees G j i
def canTo (G : List (List Int)) (o : List Nat) (m : Nat) : List Nat := (List.range m).filter fun i => freeB G o i G.length
theorem canTo_all (G : List (List Int)) (o : List Nat) : canTo G o G.length = nextO G o := rfl
theorem canTo_succ (G : List (List Int)) (o : List Nat) (m : Nat) : canTo G o (m + 1) = if freeB G o m G.length then canTo G o m ++ [m] else canTo G o m := by
  unfold canTo
  rw [List.range_succ, List.filter_append]
  cases h : freeB G o m G.length
  · rw [if_neg (by simp), List.filter_cons_of_neg (by simp only [h]; simp), List.filter_nil, List.append_nil]
  · rw [if_pos rfl, List.filter_cons_of_pos (by simp only [h]), List.filter_nil]
theorem canTo_len (G : List (List Int)) (o : List Nat) (m : Nat) : (canTo G o m).length ≤ m := by
  have := List.length_filter_le (fun i => freeB G o i G.length) (List.range m)
  simpa [canTo] using this
theorem freeB_succ (G : List (List Int)) (o : List Nat) (i k : Nat) : freeB G o i (k + 1) = (freeB G o i k && (o.contains k || !(G.getD k []).contains (i : Int))) := by
  unfold freeB
  rw [List.range_succ, List.all_append, ← Bool.and_assoc]
  simp only [List.all_cons, List.all_nil, Bool.and_true]
  rfl
theorem freeB_false {G : List (List Int)} {o : List Nat} {i k : Nat} (h : freeB G o i k = false) : ∀ n, k ≤ n → freeB G o i n = false := by
  intro n hn
  induction n with
  | zero => obtain rfl : k = 0 := by omega
            exact h
  | succ n ih =>
    by_cases e : k = n + 1
    · subst e; exact h
    · rw [freeB_succ, ih (by omega)]; rfl
theorem freeB_zero {G : List (List Int)} {o : List Nat} {i : Nat} : freeB G o i 0 = !o.contains i := by simp [freeB]

set_option maxRecDepth 100000 in
set_option maxHeartbeats 2000000 in
theorem rorder_any (gv pv : Value) (G : List (List Int)) (picks : List Int) (w : World) (hg : GraphAt w gv G) (hp : IntsAt w pv picks) (hl : G.length ≤ 100000) (hpl : picks.length ≤ 1000000) :
    Calls Try.prog 12 #[gv, pv] w (OrdRet G picks w) := by
  obtain ⟨ib, hib, hz0, hz1, hz2⟩ := info_parts (P := Try.prog) (e := 4) (z := .bool false) (size := 1) (bytes := 1) (by kernel_rfl)
  obtain ⟨ga, gcap, rfl⟩ := hg.shape
  obtain ⟨pa, pcap, rfl⟩ := hp.shape
  have HG := Lib.hid hg
  have HP := Lib.hid hp
  clear hg hp
  have Hb1 : Hid (ib.bytes * G.length ≤ 281474976710656) := by
    have : ib.bytes * G.length ≤ 281474976710656 := by rw [hz2]; omega
    exact this
  have Hb2 : Hid (G.length ≤ maxLen) := by
    have : G.length ≤ maxLen := by unfold maxLen; omega
    exact this
  go_enter Try.func12, Try.ntmps12
  go_wp2_with (first | (at_make; refine wpList_make_full _ rfl _ _ 69 rfl 0 4 ib (.bool false) 1 Try.underlying69 hib hz0 hz1 _ _ _ _ G.length rfl rfl rfl rfl Hb1.out Hb2.out (Nat.zero_le _) ?_; intro w1 hown hgr) | (fail))
  have HB0 : Hid (OwnBools w1 w.heap.size G.length G.length (thOf G.length [])) := own_made hown
  have Hf0 : Hid (Fr w w1 Nil) := (Fr.refl w Nil).grown hgr (fun k hk => by cases hk)
  clear hown hgr
  go_loopw [7, 8, 9, 10, 11, 12] (fun vo _ _ _ _ _ wr => ∃ (o : List Nat) (f : Nat) (oa : Option Addr) (ocap : Nat), orderGo G picks f o = orderP G picks ∧ f + o.length = G.length ∧ Okay G.length o ∧ vo = .slice oa o.length ocap ∧
      OwnInts wr 3 vo (ints o) ∧ NewFrom w.heap.size vo ∧ OwnBools wr w.heap.size G.length G.length (thOf G.length o) ∧ Fr w wr Nil)
    (fun vo _ _ _ _ _ _ => G.length - slLen vo)
  case atStart => exact ⟨[], G.length, none, 0, rfl, by simp, ⟨List.nodup_nil, fun i hi => by simp at hi⟩, rfl, World.ownsRow_nil _ _ _ _, fun k hk => by simp [Value.ownBlock] at hk, HB0.out, Hf0.out⟩
  case round =>
    clear HB0 Hf0
    obtain ⟨o, f, oa, ocap, hgo, hfo, hok, rfl, hvo, hno, hth, hf⟩ := hrel
    obtain ⟨wo, rfl⟩ : ∃ wo : World, wo = wr := ⟨_, rfl⟩
    have Hgo := Lib.hid hgo
    have Hok := Lib.hid hok
    have Hvo := Lib.hid hvo
    have Hno := Lib.hid hno
    have Hth := Lib.hid hth
    have Hf := Lib.hid hf
    have hol : o.length ≤ G.length := by omega
    clear hgo hok hvo hno hth hf
    by_cases hlt : o.length < G.length
    · obtain ⟨f, rfl⟩ : ∃ f', f = f' + 1 := ⟨f - 1, by omega⟩
      go_wp2_with fail
      go_loopw [8, 9, 10, 11] (fun vl vi _ _ wr => ∃ (m : Nat) (la : Option Addr) (lcap : Nat), m ≤ G.length ∧ vi = .int .i64 m ∧ vl = .slice la (canTo G o m).length lcap ∧ OwnInts wr 3 vl (ints (canTo G o m)) ∧ NewFrom wo.heap.size vl ∧ Fr wo wr Nil)
        (fun _ vi _ _ _ => G.length - (intOf vi).toNat)
      case atStart => exact ⟨0, none, 0, by omega, rfl, rfl, World.ownsRow_nil _ _ _ _, fun k hk => by simp [Value.ownBlock] at hk, Fr.refl _ _⟩
      case round =>
        obtain ⟨m, la, lcap, hm, rfl, rfl, hvl, hln, hf2⟩ := hrel
        obtain ⟨wi, rfl⟩ : ∃ wi : World, wi = wr := ⟨_, rfl⟩
        have Hvl := Lib.hid hvl
        have Hln := Lib.hid hln
        have Hf2 := Lib.hid hf2
        clear hvl hln hf2
        by_cases hlm : m < G.length
        · have HTi := Lib.hid (Hth.out.fr0 Hf2.out)
          have q0 := OwnBools.cell HTi.out (thOf_len _ _) m hlm
          rw [thOf_getD hlm] at q0
          have HZ := Lib.hid (freeB_zero (G := G) (o := o) (i := m))
          have HCS := Lib.hid (canTo_succ G o m)
          generalize o.contains m = om at *
          go_wp2_with fail
          go_loopw [10, 11] (fun vf vk wr => ∃ k : Nat, k ≤ G.length ∧ vk = .int .i64 k ∧ vf = .bool (freeB G o m k) ∧ wi = wr) (fun _ vk _ => G.length - (intOf vk).toNat)
          case atStart => exact ⟨0, by omega, rfl, by rw [HZ.out], rfl⟩
          case round =>
            obtain ⟨k, hk, rfl, rfl, rfl⟩ := hrel
            by_cases hlk : k < G.length
            · have HFS := Lib.hid (freeB_succ G o m k)
              cases hfb : freeB G o m k with
              | false =>
                have HFB := Lib.hid (freeB_false hfb G.length hk)
                rw [HFB.out, if_neg (by simp)] at HCS
                clear hfb
                go_wp2_with fail
                go_roundw
                case rel => exact ⟨m + 1, la, lcap, by omega, by go_num, by rw [HCS.out], by rw [HCS.out]; exact Hvl.out, Hln.out, Hf2.out⟩
                case measure => simp [intOf]; omega
              | true =>
                rw [hfb, Bool.true_and] at HFS
                clear hfb
                have q1 := OwnBools.cell HTi.out (thOf_len _ _) k hlk
                rw [thOf_getD hlk] at q1
                have HGi := Lib.hid (HG.out.fr0 (Hf.out.trans0 Hf2.out))
                generalize o.contains k = ok at *
                cases ok with
                | true =>
                  go_wp2_with fail
                  go_roundw
                  case rel => exact ⟨k + 1, by omega, by go_num, by rw [HFS.out]; rfl, by first | trivial | rfl⟩
                  case measure => simp [intOf]; omega
                | false =>
                  go_wp2_with fail
                  refine (edge_any _ G k m _ HGi.out hlk hl).mono ?_
                  rintro e w2 ⟨rfl, rfl⟩
                  generalize (G.getD k []).contains (m : Int) = c at *
                  go_wp2_with fail
                  go_roundw
                  case rel => exact ⟨k + 1, by omega, by go_num, by rw [HFS.out]; rfl, by first | trivial | rfl⟩
                  case measure => simp [intOf]; omega
            · obtain rfl : k = G.length := by omega
              have hcl := canTo_len G o m
              cases hfb : freeB G o m G.length with
              | false =>
                rw [hfb, if_neg (by simp)] at HCS
                clear hfb
                go_wp2_with fail
                go_roundw
                case rel => exact ⟨m + 1, la, lcap, by omega, by go_num, by rw [HCS.out], by rw [HCS.out]; exact Hvl.out, Hln.out, Hf2.out⟩
                case measure => simp [intOf]; omega
              | true =>
                rw [hfb, if_pos rfl] at HCS
                clear hfb
                have Hvl2 : Hid (∀ ob, (wi.alloc ob).ownsRow 0 3 1 (.slice la (canTo G o m).length lcap) (canTo G o m).length ((ints (canTo G o m)).map (Value.int .i64))) := fun ob => by
                  have h := Hvl.out
                  unfold OwnInts at h
                  rw [ints_len] at h
                  exact World.ownsRow.alloc h _
                have Hlen : Hid ((canTo G o m).length + 1 ≤ 1000000) := by
                  have : (canTo G o m).length + 1 ≤ 1000000 := by omega
                  exact this
                go_wp2_with (at_builtin; refine wpList_app _ rfl _ _ 28 rfl Try.sltInt _ rfl (Hvl2.out _) _ rfl (one_at _ _ _ _ (by simp)) (ints_one _) Hlen.out ?_)
                intro g3 cap3 w3 ho3 hg3 hb3
                have h1 := app_snoc (l := canTo G o m) (x := m) Hln.out Hf2.out.size (by rw [ints_len]; exact ho3) hg3 hb3
                have H1 := Lib.hid h1
                clear h1 ho3 hg3 hb3
                go_wp2_with fail
                go_roundw
                case rel => exact ⟨m + 1, g3, cap3, by omega, by go_num, by rw [HCS.out]; simp, by rw [HCS.out]; exact H1.out.1, H1.out.2.1, Hf2.out.trans H1.out.2.2 fun j hj hj2 => absurd hj (by omega)⟩
                case measure => simp [intOf]; omega
        · obtain rfl : m = G.length := by omega
          rw [canTo_all] at Hvl Hln ⊢
          have Hth2 := Lib.hid (Hth.out.fr0 Hf2.out)
          have Hf3 := Lib.hid (Hf.out.trans0 Hf2.out)
          have Hvo2 := Lib.hid (OwnInts.fr Hvo.out Hf2.out fun _ _ h => h)
          clear Hth Hf Hvo Hf2
          have hnl := next_len G o
          by_cases hn : 0 < (nextO G o).length
          · have Hst : Hid (orderGo G picks (f + 1) o = orderGo G picks f (o ++ [(nextO G o).getD (pickAt picks o.length (nextO G o).length) 0])) := by
              have : orderGo G picks (f + 1) o = orderGo G picks f (o ++ [(nextO G o).getD (pickAt picks o.length (nextO G o).length) 0]) := by
                conv => lhs; unfold orderGo
                rw [if_neg (by omega)]
              exact this
            have hnz : (((nextO G o).length : Int) == 0) = false := by rw [beq_eq_false_iff_ne]; omega
            have hnz2 : ¬ ((nextO G o).length : Int) = 0 := by omega
            by_cases hc : o.length < picks.length
            · obtain ⟨pb, poff, pcap2, hpv, hpc⟩ := (HP.out.fr Hf3.out fun _ _ h => h).form (by omega)
              simp only [Value.slice.injEq, true_and] at hpv
              obtain ⟨rfl, rfl⟩ := hpv
              have q0 := hpc o.length picks[o.length] (List.getElem?_eq_getElem hc)
              obtain ⟨p, hpn, hp1, hp2, hb1, hb2⟩ := pick_of (x := picks[o.length]) hn
              have HPK : Hid (pickAt picks o.length (nextO G o).length = p) := by
                have : pickAt picks o.length (nextO G o).length = p := by
                  unfold pickAt
                  rw [if_pos hc, show picks.getD o.length 0 = picks[o.length] by simp [List.getD_eq_getElem?_getD, hc], hp1]
                  rfl
                exact this
              generalize picks[o.length] = y at *
              clear hpc
              have hx := (mem_nextO.1 (getD_mem hpn)).1
              have Hok2 := Lib.hid (Hok.out.snoc (getD_mem hpn))
              obtain ⟨lb, rfl, q1⟩ := own_cell Hvl.out hpn (Fr.refl _ _)
              have HX : Hid ((nextO G o).getD (pickAt picks o.length (nextO G o).length) 0 = (nextO G o).getD p 0) := by
                have : (nextO G o).getD (pickAt picks o.length (nextO G o).length) 0 = (nextO G o).getD p 0 := by rw [HPK.out]
                exact this
              rw [HX.out] at Hst
              clear HX
              generalize hxe : (nextO G o).getD p 0 = x at *
              clear hxe
              have q2 := OwnBools.cell Hth2.out (thOf_len _ _) x hx
              have q3 := OwnBools.free Hth2.out x
              have hlb : lb ≠ w.heap.size := fun e => own_apart (by decide) Hvl.out Hth2.out lb rfl (by rw [e]; rfl)
              have q4 : ∀ u, (wi.setCell ⟨w.heap.size, x, none⟩ u).cell? ⟨lb, p, none⟩ = some (.int .i64 (x : Int)) := fun u => (World.cell?_setCell_other (w := wi) (a := ⟨w.heap.size, x, none⟩) (b := ⟨lb, p, none⟩) (v := u) (by intro e; injection e with e1; exact hlb e1.symm)).trans q1
              have HV4 : Hid (∀ u, (wi.setCell ⟨w.heap.size, x, none⟩ u).ownsRow 0 3 1 (.slice oa o.length ocap) o.length ((ints o).map (Value.int .i64))) := fun u => by
                have h := Hvo2.out
                unfold OwnInts at h
                rw [ints_len] at h
                exact ownsRow_setCell_other (a := ⟨w.heap.size, x, none⟩) h (fun e => own_apart (by decide) Hvo2.out Hth2.out w.heap.size e rfl) u
              have Hlen : Hid (o.length + 1 ≤ 1000000) := by
                have : o.length + 1 ≤ 1000000 := by omega
                exact this
              have hxi : (x : Int) < (G.length : Int) := by omega
              clear hlb
              go_wp2_with (at_builtin; refine wpList_app _ rfl _ _ 28 rfl Try.sltInt _ rfl (World.ownsRow.alloc (HV4.out _) _) _ rfl (one_at _ _ _ _ (by simp)) (ints_one _) Hlen.out ?_)
              intro g3 cap3 w3 ho3 hg3 hb3
              have hst := ord_step Hvo2.out Hno.out Hth2.out Hf3.out ho3 hg3 hb3
              have Hs1 := Lib.hid hst.1
              have Hs2 := Lib.hid hst.2.1
              have Hs3 := Lib.hid hst.2.2.1
              have Hs4 := Lib.hid hst.2.2.2
              clear hst ho3 hg3 hb3 q1 q2 q3 q4
              go_wp2_with fail
              go_roundw
              case rel => exact ⟨o ++ [x], f, g3, cap3, by rw [← Hst.out]; exact Hgo.out, by simp; omega, Hok2.out, by simp, Hs1.out, Hs2.out, Hs3.out, Hs4.out⟩
              case measure => simp [slLen]; omega
            · have HPK : Hid (pickAt picks o.length (nextO G o).length = 0) := by
                have : pickAt picks o.length (nextO G o).length = 0 := by
                  unfold pickAt
                  rw [if_neg hc]
                exact this
              have hpn := hn
              have hx := (mem_nextO.1 (getD_mem hpn)).1
              have Hok2 := Lib.hid (Hok.out.snoc (getD_mem hpn))
              obtain ⟨lb, rfl, q1⟩ := own_cell Hvl.out hpn (Fr.refl _ _)
              have HX : Hid ((nextO G o).getD (pickAt picks o.length (nextO G o).length) 0 = (nextO G o).getD 0 0) := by
                have : (nextO G o).getD (pickAt picks o.length (nextO G o).length) 0 = (nextO G o).getD 0 0 := by rw [HPK.out]
                exact this
              rw [HX.out] at Hst
              clear HX
              generalize hxe : (nextO G o).getD 0 0 = x at *
              clear hxe
              have q2 := OwnBools.cell Hth2.out (thOf_len _ _) x hx
              have q3 := OwnBools.free Hth2.out x
              have hlb : lb ≠ w.heap.size := fun e => own_apart (by decide) Hvl.out Hth2.out lb rfl (by rw [e]; rfl)
              have q4 : ∀ u, (wi.setCell ⟨w.heap.size, x, none⟩ u).cell? ⟨lb, 0, none⟩ = some (.int .i64 (x : Int)) := fun u => (World.cell?_setCell_other (w := wi) (a := ⟨w.heap.size, x, none⟩) (b := ⟨lb, 0, none⟩) (v := u) (by intro e; injection e with e1; exact hlb e1.symm)).trans q1
              have HV4 : Hid (∀ u, (wi.setCell ⟨w.heap.size, x, none⟩ u).ownsRow 0 3 1 (.slice oa o.length ocap) o.length ((ints o).map (Value.int .i64))) := fun u => by
                have h := Hvo2.out
                unfold OwnInts at h
                rw [ints_len] at h
                exact ownsRow_setCell_other (a := ⟨w.heap.size, x, none⟩) h (fun e => own_apart (by decide) Hvo2.out Hth2.out w.heap.size e rfl) u
              have Hlen : Hid (o.length + 1 ≤ 1000000) := by
                have : o.length + 1 ≤ 1000000 := by omega
                exact this
              have hxi : (x : Int) < (G.length : Int) := by omega
              clear hlb
              go_wp2_with (at_builtin; refine wpList_app _ rfl _ _ 28 rfl Try.sltInt _ rfl (World.ownsRow.alloc (HV4.out _) _) _ rfl (one_at _ _ _ _ (by simp)) (ints_one _) Hlen.out ?_)
              intro g3 cap3 w3 ho3 hg3 hb3
              have hst := ord_step Hvo2.out Hno.out Hth2.out Hf3.out ho3 hg3 hb3
              have Hs1 := Lib.hid hst.1
              have Hs2 := Lib.hid hst.2.1
              have Hs3 := Lib.hid hst.2.2.1
              have Hs4 := Lib.hid hst.2.2.2
              clear hst ho3 hg3 hb3 q1 q2 q3 q4
              go_wp2_with fail
              go_roundw
              case rel => exact ⟨o ++ [x], f, g3, cap3, by rw [← Hst.out]; exact Hgo.out, by simp; omega, Hok2.out, by simp, Hs1.out, Hs2.out, Hs3.out, Hs4.out⟩
              case measure => simp [slLen]; omega
          · have hn0 : nextO G o = [] := List.eq_nil_of_length_eq_zero (by omega)
            have hop : orderP G picks = o := by
              rw [← Hgo.out]
              unfold orderGo; rw [if_pos (by rw [hn0]; rfl)]
            have hn0' : (nextO G o).length = 0 := by omega
            have HL : Hid (ordL G picks = [] ∧ okP G picks = false) := by
              have hk : okP G picks = false := by unfold okP; rw [hop, decide_eq_false_iff_not]; omega
              have : ordL G picks = [] ∧ okP G picks = false := ⟨by unfold ordL; rw [hk]; rfl, hk⟩
              exact this
            rw [hn0'] at Hvl ⊢
            clear hn0 hn0' hn Hgo hop
            go_wp2_with fail
            go_ret2
            refine ⟨none, 0, by rw [HL.out.1, HL.out.2]; rfl, ?_, ?_, Hf3.out⟩
            · rw [HL.out.1]; exact World.ownsRow_nil _ _ _ _
            · intro k hk; simp [Value.ownBlock] at hk
    · have hop : orderP G picks = o := by
        rw [← Hgo.out]
        obtain rfl : f = 0 := by omega
        rfl
      have HL : Hid (ordL G picks = o ∧ okP G picks = true) := by
        have hk : okP G picks = true := by unfold okP; rw [hop, decide_eq_true_eq]; omega
        have : ordL G picks = o ∧ okP G picks = true := ⟨by unfold ordL; rw [hk, if_pos rfl, hop], hk⟩
        exact this
      clear hop Hgo
      go_wp2_with fail
      go_ret2
      refine ⟨oa, ocap, by rw [HL.out.1, HL.out.2]; rfl, ?_, ?_, Hf.out⟩
      · rw [HL.out.1]; exact Hvo.out
      · rw [HL.out.1]; exact Hno.out
end Go.Proofs.Ytegejcmihojhbaa
