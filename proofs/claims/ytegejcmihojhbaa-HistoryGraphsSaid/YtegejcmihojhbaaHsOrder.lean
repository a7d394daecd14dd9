/-
  Walks of Order and Is.
  No condition but sizes.
-/
import Derived.Test.YtegejcmihojhbaaHsNext
namespace Go.Proofs.Ytegejcmihojhbaa
open Go Go.RowKit

def slLen : Value → Nat
  | .slice _ n _ => n
  | _ => 0
/-- Rows of unlike types lie apart. -/
theorem own_apart {w : World} {b1 b2 n1 n2 s1 s2 : Nat} {e1 e2 : TypeId} {v1 v2 : Value} {x1 x2 : List Value} (he : e1 ≠ e2) (h1 : w.ownsRow b1 e1 s1 v1 n1 x1) (h2 : w.ownsRow b2 e2 s2 v2 n2 x2) (k : Nat) (hk : v1.ownBlock = some k) : v2.ownBlock ≠ some k := by
  intro hk2
  rcases h1.2 with ⟨rfl, _⟩ | ⟨g, cap, cur, rfl, _, hg, _⟩
  · simp [Value.ownBlock] at hk
  rcases h2.2 with ⟨rfl, _⟩ | ⟨g2, cap2, cur2, rfl, _, hg2, _⟩
  · simp [Value.ownBlock] at hk2
  simp [Value.ownBlock] at hk hk2
  subst hk
  subst hk2
  rw [hg] at hg2
  simp at hg2
  exact he hg2.2
theorem own_made {w w1 : World} {n : Nat} (h : w1.ownsRow 0 4 1 (.slice (some ⟨w.heap.size, 0, none⟩) n n) n (madeCells (Value.bool false).cells (n * 1)).toList) : OwnBools w1 w.heap.size n n (thOf n []) := by
  unfold OwnBools
  have e : (madeCells (Value.bool false).cells (n * 1)).toList = (thOf n []).map Value.bool := by
    rw [thOf_nil, Nat.mul_one, List.map_replicate]
    exact toList_madeCells_one _ _
  rw [← e]; exact h
def ordL (G : List (List Int)) (picks : List Int) : List Nat := if okP G picks then orderP G picks else []
def OrdRet (G : List (List Int)) (picks : List Int) (w : World) (e : Ending) (w' : World) : Prop :=
  ∃ a cap, e = .returned (.tuple #[.slice a (ordL G picks).length cap, .bool (okP G picks)]) ∧ OwnInts w' 3 (.slice a (ordL G picks).length cap) (ints (ordL G picks)) ∧ NewFrom w.heap.size (.slice a (ordL G picks).length cap) ∧ Fr w w' Nil

/-- One step: the node is there, and stands behind. -/
theorem ord_step {w wr w3 : World} {n x : Nat} {o : List Nat} {vo v3 : Value} {ob : Obj} (hvo : OwnInts wr 3 vo (ints o)) (hno : NewFrom w.heap.size vo) (hth : OwnBools wr w.heap.size n n (thOf n o)) (hf : Fr w wr Nil)
    (ho : w3.ownsRow 0 3 1 v3 (o.length + 1) ((ints o).map (Value.int .i64) ++ [.int .i64 (x : Int)])) (hg : ((wr.setCell ⟨w.heap.size, x, none⟩ (.bool true)).alloc ob).grownBy w3 vo.ownBlock) (hb : v3.ownBlock = vo.ownBlock ∨ v3.ownBlock = some (wr.heap.size + 1)) :
    OwnInts w3 3 v3 (ints (o ++ [x])) ∧ NewFrom w.heap.size v3 ∧ OwnBools w3 w.heap.size n n (thOf n (o ++ [x])) ∧ Fr w w3 Nil := by
  have hsz := hf.size
  have hap : vo.ownBlock ≠ some w.heap.size := fun e => own_apart (by decide) hvo hth _ e rfl
  refine ⟨own_snoc ho, fun k hk => ?_, ?_, ?_⟩
  · rcases hb with hb | hb
    · exact hno k (by rw [← hb, hk])
    · rw [hk] at hb; cases hb; omega
  · have h1 := hth.set x true
    rw [thOf_set] at h1
    have h2 := World.ownsRow.alloc h1 ob
    exact h2.kept hg (.inr fun e => hap e.symm)
  · refine ((hf.setCell (fun h => absurd h (by simp)) _).alloc ob).grown hg fun k hk hlt => ?_
    have := hno k hk
    omega
theorem own_cell {w wr' : World} {la : Option Addr} {lcap p : Nat} {l : List Nat} (h : OwnInts w 3 (.slice la l.length lcap) (ints l)) (hp : p < l.length) (hf : Fr w wr' Nil) :
    ∃ b, la = some ⟨b, 0, none⟩ ∧ wr'.cell? ⟨b, p, none⟩ = some (.int .i64 ((l.getD p 0 : Nat) : Int)) := by
  obtain ⟨b, cap, hv, _⟩ := h.form (by rw [ints_len]; omega)
  rw [ints_len] at hv
  simp only [Value.slice.injEq, true_and] at hv
  obtain ⟨rfl, rfl⟩ := hv
  refine ⟨b, rfl, hf.cell ?_ (fun h => h)⟩
  rw [h.cell (by rw [ints_len]) p (by rw [ints_len]; exact hp), ints_getD]
theorem pick_of {x : Int} {n : Nat} (hn : 0 < n) : ∃ p : Nat, p < n ∧ ((x.tmod n + n).tmod n = (p : Int)) ∧ ((x.tmod n + n) % n = (p : Int)) ∧ -(n : Int) < x.tmod n ∧ x.tmod n < n := by
  have h1 := Int.tmod_lt_of_pos x (b := (n : Int)) (by omega)
  have h0 := Int.lt_tmod_of_pos x (b := (n : Int)) (by omega)
  have h2 := Int.tmod_lt_of_pos (x.tmod n + n) (b := (n : Int)) (by omega)
  have h3 : 0 ≤ (x.tmod n + n).tmod n := Int.tmod_nonneg _ (by omega)
  have h4 : (x.tmod n + n).tmod n = (x.tmod n + n) % n := Int.tmod_eq_emod_of_nonneg (by omega)
  exact ⟨((x.tmod n + n).tmod n).toNat, by omega, by omega, by rw [← h4]; omega, by omega, h1⟩

set_option maxRecDepth 100000 in
set_option maxHeartbeats 1000000 in
theorem order_any (gv pv : Value) (G : List (List Int)) (picks : List Int) (w : World) (hg : GraphAt w gv G) (hp : IntsAt w pv picks) (hl : G.length ≤ 100000) (hpl : picks.length ≤ 1000000) :
    Calls Try.prog 11 #[gv, pv] w (OrdRet G picks w) := by
  obtain ⟨ib, hib, hz0, hz1, hz2⟩ := info_parts (P := Try.prog) (e := 4) (z := .bool false) (size := 1) (bytes := 1) (by kernel_rfl)
  obtain ⟨ga, gcap, rfl⟩ := hg.shape
  obtain ⟨pa, pcap, rfl⟩ := hp.shape
  have HG := Lib.hid hg
  have HP := Lib.hid hp
  clear hg hp
  have Hb1 : Hid (ib.bytes * G.length ≤ 281474976710656) := by
    have : ib.bytes * G.length ≤ 281474976710656 := by rw [hz2]; omega
    exact this
  have Hb2 : Hid (G.length ≤ maxLen) := by
    have : G.length ≤ maxLen := by unfold maxLen; omega
    exact this
  go_enter Try.func11, Try.ntmps11
  go_wp2_with (first | (at_make; refine wpList_make_full _ rfl _ _ 69 rfl 0 4 ib (.bool false) 1 Try.underlying69 hib hz0 hz1 _ _ _ _ G.length rfl rfl rfl rfl Hb1.out Hb2.out (Nat.zero_le _) ?_; intro w1 hown hgr) | (fail))
  have HB0 : Hid (OwnBools w1 w.heap.size G.length G.length (thOf G.length [])) := own_made hown
  have Hf0 : Hid (Fr w w1 Nil) := (Fr.refl w Nil).grown hgr (fun k hk => by cases hk)
  clear hown hgr
  refine (next_any _ _ G [] _ (HG.out.fr0 Hf0.out) (HB0.out.at (thOf_len _ _)) hl).mono ?_
  rintro e w2 ⟨la, lcap, rfl, hlo, hln, hf⟩
  have Hlo := Lib.hid hlo
  have Hf := Lib.hid (Hf0.out.trans0 hf)
  have HB := Lib.hid (HB0.out.fr0 hf)
  clear hlo hln hf HB0 Hf0
  go_wp2_with fail
  go_loopw [7, 8, 9] (fun vo vl _ wr => ∃ (o : List Nat) (f : Nat) (oa : Option Addr) (ocap : Nat) (la : Option Addr) (lcap : Nat), orderGo G picks f o = orderP G picks ∧ f + o.length = G.length ∧ Okay G.length o ∧ vo = .slice oa o.length ocap ∧ vl = .slice la (nextO G o).length lcap ∧
      OwnInts wr 3 vo (ints o) ∧ NewFrom w.heap.size vo ∧ OwnInts wr 3 vl (ints (nextO G o)) ∧ OwnBools wr w.heap.size G.length G.length (thOf G.length o) ∧ Fr w wr Nil)
    (fun vo _ _ _ => G.length - slLen vo)
  case atStart => exact ⟨[], G.length, none, 0, la, lcap, rfl, by simp, ⟨List.nodup_nil, fun i hi => by simp at hi⟩, rfl, rfl, World.ownsRow_nil _ _ _ _, fun k hk => by simp [Value.ownBlock] at hk, Hlo.out, HB.out, Hf.out⟩
  case round =>
    clear Hlo Hf HB
    obtain ⟨o, f, oa, ocap, la, lcap, hgo, hfo, hok, rfl, rfl, hvo, hno, hvl, hth, hf⟩ := hrel
    have Hgo := Lib.hid hgo
    have Hok := Lib.hid hok
    have Hvo := Lib.hid hvo
    have Hno := Lib.hid hno
    have Hvl := Lib.hid hvl
    have Hth := Lib.hid hth
    have Hf := Lib.hid hf
    have hol : o.length ≤ G.length := by omega
    clear hgo hok hvo hno hvl hth hf
    by_cases hn : 0 < (nextO G o).length
    · obtain ⟨f, rfl⟩ : ∃ f', f = f' + 1 := by
        cases f with
        | zero =>
          rw [nextO_full Hok.out (by omega)] at hn; simp at hn
        | succ f => exact ⟨f, rfl⟩
      have Hst : Hid (orderGo G picks (f + 1) o = orderGo G picks f (o ++ [(nextO G o).getD (pickAt picks o.length (nextO G o).length) 0])) := by
        have : orderGo G picks (f + 1) o = orderGo G picks f (o ++ [(nextO G o).getD (pickAt picks o.length (nextO G o).length) 0]) := by
          conv => lhs; unfold orderGo
          rw [if_neg (by omega)]
        exact this
      have hnl := next_len G o
      have hnz : (((nextO G o).length : Int) == 0) = false := by rw [beq_eq_false_iff_ne]; omega
      have hnz2 : ¬ ((nextO G o).length : Int) = 0 := by omega
      by_cases hc : o.length < picks.length
      · obtain ⟨pb, poff, pcap2, hpv, hpc⟩ := (HP.out.fr Hf.out fun _ _ h => h).form (by omega)
        simp only [Value.slice.injEq, true_and] at hpv
        obtain ⟨rfl, rfl⟩ := hpv
        have q0 := hpc o.length picks[o.length] (List.getElem?_eq_getElem hc)
        obtain ⟨p, hpn, hp1, hp2, hb1, hb2⟩ := pick_of (x := picks[o.length]) hn
        have HPK : Hid (pickAt picks o.length (nextO G o).length = p) := by
          have : pickAt picks o.length (nextO G o).length = p := by
            unfold pickAt
            rw [if_pos hc, show picks.getD o.length 0 = picks[o.length] by simp [List.getD_eq_getElem?_getD, hc], hp1]
            rfl
          exact this
        generalize picks[o.length] = y at *
        clear hpc
        have hx := (mem_nextO.1 (getD_mem hpn)).1
        have Hok2 := Lib.hid (Hok.out.snoc (getD_mem hpn))
        obtain ⟨lb, rfl, q1⟩ := own_cell Hvl.out hpn (Fr.refl _ _)
        have HX : Hid ((nextO G o).getD (pickAt picks o.length (nextO G o).length) 0 = (nextO G o).getD p 0) := by
          have : (nextO G o).getD (pickAt picks o.length (nextO G o).length) 0 = (nextO G o).getD p 0 := by rw [HPK.out]
          exact this
        rw [HX.out] at Hst
        clear HX
        generalize hxe : (nextO G o).getD p 0 = x at *
        clear hxe
        have q2 := OwnBools.cell Hth.out (thOf_len _ _) x hx
        have q3 := OwnBools.free Hth.out x
        have hlb : lb ≠ w.heap.size := fun e => own_apart (by decide) Hvl.out Hth.out lb rfl (by rw [e]; rfl)
        have q4 : ∀ u, (wr.setCell ⟨w.heap.size, x, none⟩ u).cell? ⟨lb, p, none⟩ = some (.int .i64 (x : Int)) := fun u => (World.cell?_setCell_other (w := wr) (a := ⟨w.heap.size, x, none⟩) (b := ⟨lb, p, none⟩) (v := u) (by intro e; injection e with e1; exact hlb e1.symm)).trans q1
        have HV4 : Hid (∀ u, (wr.setCell ⟨w.heap.size, x, none⟩ u).ownsRow 0 3 1 (.slice oa o.length ocap) o.length ((ints o).map (Value.int .i64))) := fun u => by
          have h := Hvo.out
          unfold OwnInts at h
          rw [ints_len] at h
          exact ownsRow_setCell_other (a := ⟨w.heap.size, x, none⟩) h (fun e => own_apart (by decide) Hvo.out Hth.out w.heap.size e rfl) u
        have Hlen : Hid (o.length + 1 ≤ 1000000) := by
          have : o.length + 1 ≤ 1000000 := by omega
          exact this
        have hxi : (x : Int) < (G.length : Int) := by omega
        clear hlb
        go_wp2_with (at_builtin; refine wpList_app _ rfl _ _ 28 rfl Try.sltInt _ rfl (World.ownsRow.alloc (HV4.out _) _) _ rfl (one_at _ _ _ _ (by simp)) (ints_one _) Hlen.out ?_)
        intro g3 cap3 w3 ho3 hg3 hb3
        have hst := ord_step Hvo.out Hno.out Hth.out Hf.out ho3 hg3 hb3
        have Hs1 := Lib.hid hst.1
        have Hs2 := Lib.hid hst.2.1
        have Hs3 := Lib.hid hst.2.2.1
        have Hs4 := Lib.hid hst.2.2.2
        clear hst ho3 hg3 hb3 q1 q2 q3 q4
        go_wp2_with fail
        refine (next_any _ _ G (o ++ [x]) _ (HG.out.fr0 Hs4.out) (Hs3.out.at (thOf_len _ _)) hl).mono ?_
        rintro e w4 ⟨la4, lcap4, rfl, hlo4, _, hf4⟩
        have Hlo4 := Lib.hid hlo4
        have Hf4 := Lib.hid hf4
        clear hlo4 hf4
        go_wp2_with fail
        go_roundw
        case rel =>
          refine ⟨o ++ [x], f, g3, cap3, la4, lcap4, by rw [← Hst.out]; exact Hgo.out, by simp; omega, Hok2.out, by simp, rfl, ?_, ?_, Hlo4.out, Hs3.out.fr0 Hf4.out, Hs4.out.trans0 Hf4.out⟩
          · have := Hs1.out.fr Hf4.out (fun _ _ h => h)
            exact this
          · exact Hs2.out
        case measure => simp [slLen]; omega
      · have HPK : Hid (pickAt picks o.length (nextO G o).length = 0) := by
          have : pickAt picks o.length (nextO G o).length = 0 := by
            unfold pickAt
            rw [if_neg hc]
          exact this
        have hpn := hn
        have hx := (mem_nextO.1 (getD_mem hpn)).1
        have Hok2 := Lib.hid (Hok.out.snoc (getD_mem hpn))
        obtain ⟨lb, rfl, q1⟩ := own_cell Hvl.out hpn (Fr.refl _ _)
        have HX : Hid ((nextO G o).getD (pickAt picks o.length (nextO G o).length) 0 = (nextO G o).getD 0 0) := by
          have : (nextO G o).getD (pickAt picks o.length (nextO G o).length) 0 = (nextO G o).getD 0 0 := by rw [HPK.out]
          exact this
        rw [HX.out] at Hst
        clear HX
        generalize hxe : (nextO G o).getD 0 0 = x at *
        clear hxe
        have q2 := OwnBools.cell Hth.out (thOf_len _ _) x hx
        have q3 := OwnBools.free Hth.out x
        have hlb : lb ≠ w.heap.size := fun e => own_apart (by decide) Hvl.out Hth.out lb rfl (by rw [e]; rfl)
        have q4 : ∀ u, (wr.setCell ⟨w.heap.size, x, none⟩ u).cell? ⟨lb, 0, none⟩ = some (.int .i64 (x : Int)) := fun u => (World.cell?_setCell_other (w := wr) (a := ⟨w.heap.size, x, none⟩) (b := ⟨lb, 0, none⟩) (v := u) (by intro e; injection e with e1; exact hlb e1.symm)).trans q1
        have HV4 : Hid (∀ u, (wr.setCell ⟨w.heap.size, x, none⟩ u).ownsRow 0 3 1 (.slice oa o.length ocap) o.length ((ints o).map (Value.int .i64))) := fun u => by
          have h := Hvo.out
          unfold OwnInts at h
          rw [ints_len] at h
          exact ownsRow_setCell_other (a := ⟨w.heap.size, x, none⟩) h (fun e => own_apart (by decide) Hvo.out Hth.out w.heap.size e rfl) u
        have Hlen : Hid (o.length + 1 ≤ 1000000) := by
          have : o.length + 1 ≤ 1000000 := by omega
          exact this
        have hxi : (x : Int) < (G.length : Int) := by omega
        clear hlb
        go_wp2_with (at_builtin; refine wpList_app _ rfl _ _ 28 rfl Try.sltInt _ rfl (World.ownsRow.alloc (HV4.out _) _) _ rfl (one_at _ _ _ _ (by simp)) (ints_one _) Hlen.out ?_)
        intro g3 cap3 w3 ho3 hg3 hb3
        have hst := ord_step Hvo.out Hno.out Hth.out Hf.out ho3 hg3 hb3
        have Hs1 := Lib.hid hst.1
        have Hs2 := Lib.hid hst.2.1
        have Hs3 := Lib.hid hst.2.2.1
        have Hs4 := Lib.hid hst.2.2.2
        clear hst ho3 hg3 hb3 q1 q2 q3 q4
        go_wp2_with fail
        refine (next_any _ _ G (o ++ [x]) _ (HG.out.fr0 Hs4.out) (Hs3.out.at (thOf_len _ _)) hl).mono ?_
        rintro e w4 ⟨la4, lcap4, rfl, hlo4, _, hf4⟩
        have Hlo4 := Lib.hid hlo4
        have Hf4 := Lib.hid hf4
        clear hlo4 hf4
        go_wp2_with fail
        go_roundw
        case rel =>
          refine ⟨o ++ [x], f, g3, cap3, la4, lcap4, by rw [← Hst.out]; exact Hgo.out, by simp; omega, Hok2.out, by simp, rfl, ?_, ?_, Hlo4.out, Hs3.out.fr0 Hf4.out, Hs4.out.trans0 Hf4.out⟩
          · have := Hs1.out.fr Hf4.out (fun _ _ h => h)
            exact this
          · exact Hs2.out
        case measure => simp [slLen]; omega
    · have hn0 : nextO G o = [] := List.eq_nil_of_length_eq_zero (by omega)
      have hop : orderP G picks = o := by
        rw [← Hgo.out]
        cases f with
        | zero => rfl
        | succ f => unfold orderGo; rw [if_pos (by rw [hn0]; rfl)]
      have hn0' : (nextO G o).length = 0 := by omega
      rw [hn0'] at Hvl ⊢
      clear hn0 hn0' hn Hgo
      by_cases hlt : o.length < G.length
      · have HL : Hid (ordL G picks = [] ∧ okP G picks = false) := by
          have hk : okP G picks = false := by unfold okP; rw [hop, decide_eq_false_iff_not]; omega
          have : ordL G picks = [] ∧ okP G picks = false := ⟨by unfold ordL; rw [hk]; rfl, hk⟩
          exact this
        clear hop
        go_wp2_with fail
        go_ret2
        refine ⟨none, 0, by rw [HL.out.1, HL.out.2]; rfl, ?_, ?_, Hf.out⟩
        · rw [HL.out.1]; exact World.ownsRow_nil _ _ _ _
        · intro k hk; simp [Value.ownBlock] at hk
      · have HL : Hid (ordL G picks = o ∧ okP G picks = true) := by
          have hk : okP G picks = true := by unfold okP; rw [hop, decide_eq_true_eq]; omega
          have : ordL G picks = o ∧ okP G picks = true := ⟨by unfold ordL; rw [hk, if_pos rfl, hop], hk⟩
          exact this
        clear hop
        go_wp2_with fail
        go_ret2
        refine ⟨oa, ocap, by rw [HL.out.1, HL.out.2]; rfl, ?_, ?_, Hf.out⟩
        · rw [HL.out.1]; exact Hvo.out
        · rw [HL.out.1]; exact Hno.out
end Go.Proofs.Ytegejcmihojhbaa
