/-
  ahead: an iterator over the pairs of touches that conflict: its contract.
  No condition but sizes.
-/
import Derived.RangeFuncNested
import Derived.RangeFuncBound
import Derived.RangeFuncCalls
import Derived.RangeFuncLeaves
import Derived.Shelf.Abstract
import Derived.Shelf.RegionOpen
import Derived.OwnWalkIn
import Derived.TacticsInMore
import Derived.LoopNIn
import Derived.LoopIn
import Derived.Test.YtegejcmihojhbaaHsPairs
import Derived.Test.YtegejcmihojhbaaHsLeaf
namespace Go.Proofs.Ytegejcmihojhbaa
open Go Go.RowKit Go.Shelf

attribute [local go_sem] Oper.semAt_some

theorem Fr.grownTo {w w' : World} (h : Fr w w' Nil) : w.grownBy w' none := ⟨h.os, h.tape, h.output, h.size, fun k hk _ => h.block k hk fun h => h⟩
/-- What the iterator wants kept: what lay below B, its own box, and whatever holds a touch. -/
def Prot (B Bs : Nat) (W : World) (k : Nat) : Prop := k < B ∨ k = Bs ∨ ∃ c f, W.heap[k]? = some (.cells c 46 f)
def Keep (B Bs : Nat) (w w' : World) : Prop := Fr w w' (fun k => ¬ Prot B Bs w k)
theorem Keep.of {B Bs : Nat} {w w' : World} {S : Nat → Prop} (h : Fr w w' S) (hs : ∀ k, k < w.heap.size → S k → ¬ Prot B Bs w k) : Keep B Bs w w' := h.mono hs
theorem Keep.nil {B Bs : Nat} {w w' : World} (h : Fr w w' Nil) : Keep B Bs w w' := h.of_nil
theorem keep_t {B Bs : Nat} {a b c : World} (h : Keep B Bs a b) (k : Keep B Bs b c) : Keep B Bs a c := by
  refine Fr.trans h k fun j hj hn hp => hn ?_
  rcases hp with hp | hp | ⟨c, f, hp⟩
  · exact .inl hp
  · exact .inr (.inl hp)
  · exact .inr (.inr ⟨c, f, (h.block j hj fun hn => hn (.inr (.inr ⟨c, f, hp⟩))).trans hp⟩)
theorem keep_b {B Bs : Nat} {w : World} (hB : B ≤ w.heap.size) (hBs : Bs < w.heap.size) (W : World) (l : Nat) (o o' : Obj) (hl : w.heap.size ≤ l) (h : W.heap[l]? = some o) (hc : o.isCells = false) (_ : o.isWalk = false) : Keep B Bs W (W.putObj l o') := by
  refine (Fr.refl W _).grown (grownBy_putObj' W l o') fun k e _ => ?_
  cases e
  rintro (hp | hp | ⟨c, f, hp⟩)
  · omega
  · omega
  · rw [h] at hp; cases hp; cases hc
theorem Keep.box {B Bs : Nat} {w w' : World} {g : Nat} {cs : List Value} (h : Keep B Bs w w') (hb : Bk w g 46 cs) : Bk w' g 46 cs :=
  hb.fr h fun hn => hn (.inr (.inr ⟨_, _, hb⟩))
theorem Keep.low {B Bs : Nat} {w w' : World} (h : Keep B Bs w w') {p : Addr} {v : Value} (hc : w.cell? p = some v) (hp : p.block < B ∨ p.block = Bs) : w'.cell? p = some v :=
  Fr.cell h hc fun hn => hn (hp.imp id .inl)
theorem TouchAt.fr0 {w w' : World} {b o : Nat} {t : TouchD} (h : TouchAt w b o t) (hf : Fr w w' Nil) : TouchAt w' b o t :=
  ⟨hf.cell h.who fun h => h, hf.cell h.tab fun h => h, hf.cell h.row fun h => h, hf.cell h.key fun h => h, hf.cell h.wrote fun h => h⟩

theorem TouchAt.box {w : World} {g : Nat} {t : TouchD} (h : Bk w g 46 t.vals) : TouchAt w g 0 t := ⟨h.cell 0, h.cell 1, h.cell 2, h.cell 3, h.cell 4⟩
abbrev encP (p : Pair) : Array Value := #[p.1.val, p.2.val]

set_option maxRecDepth 100000 in
set_option maxHeartbeats 2000000 in
theorem ahead1_in (n : Nat) (hn : 1 ≤ n) (l Bs B : Nat) (a : Option Addr) (cap : Nat) (ts : List TouchD) (hl : ts.length ≤ 1000000) (hcap : ts.length ≤ cap) (hv : 0 < ts.length → ∀ k, (Value.slice a ts.length cap).ownBlock = some k → k < B) (J Jx : List Pair → World → Prop) (W : World) (hJ : AbidesFrom W.heap.size J)
    (hY : ∀ pre x W1, J pre W1 → pre.length < (aheadP ts).length → YieldAt Fence.wide (n - 1) Try.prog l (encP x) W1 fun e W' =>
      (e = .returned (.bool true) ∧ J (pre ++ [x]) W' ∧ Keep B Bs W1 W') ∨ (e = .returned (.bool false) ∧ Jx (pre ++ [x]) W'))
    (hBs : W.cell? ⟨Bs, 0, none⟩ = some (.slice a ts.length cap)) (hT : TouchesAt W (.slice a ts.length cap) ts) (h0 : J [] W) :
    CallsIn Fence.wide n Try.prog 37 #[.func (.yield l) #[] #[], .pointer (some ⟨Bs, 0, none⟩)] W fun e W' => (∃ v, e = .returned v) ∧
      ((∃ ys, ys = aheadP ts ∧ J ys W') ∨ (∃ pre, pre <+: aheadP ts ∧ Jx pre W')) := by
  have HT := Lib.hid hT
  have HV := Lib.hid hv
  have HY := Lib.hid hY
  have HJ := Lib.hid hJ
  clear hT hv hY hJ
  refine callsIn_of_wp Try.func37 rfl trivial ?_ rfl
  simp only [Try.ntmps37, List.size_toArray, List.length_cons, List.length_nil, Nat.reduceAdd, Nat.reduceSub, Array.replicate_succ, Array.replicate_zero, List.push_toArray, List.append_toArray, List.nil_append, List.cons_append]
  gi_wp2
  gi_loopw [9] (fun vi wr => ∃ i : Nat, i ≤ ts.length ∧ vi = .int .i64 i ∧ J (aheadTo ts i) wr ∧ Keep B Bs W wr) (fun vi _ => ts.length - (intOf vi).toNat)
  case atStart => exact ⟨0, by omega, rfl, h0, Fr.refl _ _⟩
  case round =>
    obtain ⟨i, hi, rfl, hJs, hk⟩ := hrel
    have HJs := Lib.hid hJs
    have HK := Lib.hid hk
    have q7 := hk.low hBs (.inr rfl)
    clear hJs hk
    obtain ⟨wo, rfl⟩ : ∃ wo : World, wo = wr := ⟨_, rfl⟩
    by_cases hlt : i < ts.length
    · obtain ⟨tb, toff, cap2, hsv, htc⟩ := TouchesAt.form HT.out (by omega)
      simp only [Value.slice.injEq, true_and] at hsv
      obtain ⟨rfl, rfl⟩ := hsv
      have htb : tb < B := HV.out (by omega) tb rfl
      have HTC : Hid (∀ wr, Keep B Bs W wr → ∀ j t, ts[j]? = some t → TouchAt wr tb (toff + j * 5) t) := fun wr hk j t ht => by
        have h := htc j t ht
        exact ⟨hk.low h.who (.inl htb), hk.low h.tab (.inl htb), hk.low h.row (.inl htb), hk.low h.key (.inl htb), hk.low h.wrote (.inl htb)⟩
      have hgb := List.getElem?_eq_getElem hlt
      generalize ts[i] = b at hgb
      have HGB := Lib.hid hgb
      have hb := HTC.out wo HK.out i b hgb
      have p0 := hb.who
      have p1 := hb.tab
      have p2 := hb.row
      have p3 := hb.key
      have p4 := hb.wrote
      have HS := Lib.hid (aheadTo_succ hgb)
      have hic : (i : Int) ≤ (cap : Int) := by omega
      have hil : (i : Int) < (ts.length : Int) := by omega
      have hil2 : i ≤ ts.length := by omega
      have q8 := fun o => ((Fr.refl wo Nil).alloc o).cell q7 (fun h => h)
      have HBX := Lib.hid (Bk.new wo 46 #[.int .i64 b.who, .int .i64 b.tab, .bool b.row, .int .i64 b.key, .bool b.wrote])
      clear hgb hb htc
      gi_wp2
      have HK1 : Hid (Keep B Bs W (wo.alloc (.cells #[.int .i64 b.who, .int .i64 b.tab, .bool b.row, .int .i64 b.key, .bool b.wrote] 46))) := keep_t HK.out (Keep.nil ((Fr.refl _ _).alloc _))
      have HJ1 : Hid (J (aheadTo ts i) (wo.alloc (.cells #[.int .i64 b.who, .int .i64 b.tab, .bool b.row, .int .i64 b.key, .bool b.wrote] 46))) := HJ.out _ _ _ none HJs.out (World.grownBy_alloc _ _ none) (fun r e => by cases e)
      generalize wo.heap.size = gb at *
      generalize wo.alloc (.cells #[.int .i64 b.who, .int .i64 b.tab, .bool b.row, .int .i64 b.key, .bool b.wrote] 46) = w1 at *
      clear p0 p1 p2 p3 p4 q7 q8
      gi_loopw [6, 18] (fun _ vm wr => ∃ m : Nat, m ≤ i ∧ vm = .int .i64 m ∧ J (aheadTo ts i ++ rowP ts b m) wr ∧ Keep B Bs W wr ∧ Bk wr gb 46 b.vals) (fun _ vm _ => i - (intOf vm).toNat)
      case atStart => exact ⟨0, by omega, rfl, by rw [rowP_zero, List.append_nil]; exact HJ1.out, HK1.out, HBX.out⟩
      case round =>
        clear HJ1 HK1 HBX HJs HK
        obtain ⟨m, hm, rfl, hJs, hk, hbx⟩ := hrel
        have HJs := Lib.hid hJs
        have HK := Lib.hid hk
        have HBX := Lib.hid hbx
        clear hJs hk hbx
        by_cases hlm : m < i
        · have hga := List.getElem?_eq_getElem (show m < ts.length by omega)
          generalize ts[m] = a at hga
          have ha := HTC.out wr HK.out m a hga
          have p0 := ha.who
          have p1 := ha.tab
          have p2 := ha.row
          have p3 := ha.key
          have p4 := ha.wrote
          have HRS := Lib.hid (rowP_succ (b := b) hga)
          have hmi : (m : Int) < (i : Int) := by omega
          have HB1 : Hid (∀ o w', Fr (wr.alloc o) w' Nil → TouchAt w' gb 0 b) := fun o w' hf => TouchAt.box ((HBX.out.alloc o).fr hf fun h => h)
          have HB2 := Lib.hid (fun o => TouchAt.box (HBX.out.alloc o))
          have r0 := fun o => (HB2.out o).who
          have r1 := fun o => (HB2.out o).tab
          have r2 := fun o => (HB2.out o).row
          have r3 := fun o => (HB2.out o).key
          have r4 := fun o => (HB2.out o).wrote
          clear ha hga
          gi_wp2_with fail
          refine ⟨trivial, ?_⟩
          refine (callsIn_wide.2 (conflict_any a b _)).mono ?_
          rintro e w5 ⟨rfl, hf5⟩
          have HBX5 := Lib.hid (((HBX.out.alloc _).fr hf5 fun h => h))
          have HK5 : Hid (Keep B Bs W w5) := keep_t HK.out (Keep.nil (((Fr.refl _ _).alloc _).trans0 hf5))
          have HJ5 : Hid (J (aheadTo ts i ++ rowP ts b m) w5) := HJ.out _ _ _ none HJs.out (((Fr.refl _ Nil).alloc _).trans0 hf5).grownTo (fun r e => by cases e)
          have hA5 := TouchAt.box (t := a) ((Bk.new wr 46 #[.int .i64 a.who, .int .i64 a.tab, .bool a.row, .int .i64 a.key, .bool a.wrote]).fr hf5 fun h => h)
          have hB5 := TouchAt.box HBX5.out
          have s0 := hA5.who
          have s1 := hA5.tab
          have s2 := hA5.row
          have s3 := hA5.key
          have s4 := hA5.wrote
          have t0 := hB5.who
          have t1 := hB5.tab
          have t2 := hB5.row
          have t3 := hB5.key
          have t4 := hB5.wrote
          clear r0 r1 r2 r3 r4 p0 p1 p2 p3 p4 hA5 hB5 hf5 HBX HK HJs HB1 HB2
          cases hc : conf a b with
          | false =>
            rw [hc, if_neg (by simp)] at HRS
            clear hc
            gi_wp2
            refine ⟨fun _ h => (by cases h), ?_⟩
            gi_wp2
            go_roundw
            case rel => exact ⟨m + 1, by omega, by go_num, by rw [HRS.out]; exact HJ5.out, HK5.out, HBX5.out⟩
            case measure => simp [intOf]; omega
          | true =>
            rw [hc, if_pos rfl] at HRS
            clear hc
            have hpl : (aheadTo ts i ++ rowP ts b m).length < (aheadP ts).length := by
              have h := (part_pre HGB.out (show m + 1 ≤ i by omega)).length_le
              rw [HRS.out] at h
              simp only [List.length_append, List.length_cons, List.length_nil] at h ⊢
              omega
            obtain ⟨fn, tmps, assign, body, hy, hR⟩ := HY.out (aheadTo ts i ++ rowP ts b m) (a, b) w5 HJ5.out hpl
            dsimp only [encP] at hy
            have HPP := Lib.hid (part_pre HGB.out (show m + 1 ≤ i by omega))
            clear hpl
            gi_wp2
            refine hR.mono ?_
            rintro e W3 (⟨rfl, hJ3, hk3⟩ | ⟨rfl, hJx3⟩)
            · have HJ3 := Lib.hid hJ3
              have HK3 := Lib.hid (keep_t HK5.out hk3)
              have HBX3 := Lib.hid (hk3.box HBX5.out)
              clear hJ3 hk3
              gi_wp2
              go_roundw
              case rel => exact ⟨m + 1, by omega, by go_num, by rw [HRS.out, ← List.append_assoc]; exact HJ3.out, HK3.out, HBX3.out⟩
              case measure => simp [intOf]; omega
            · gi_wp2
              refine bodyPost_ret (results_none rfl _ _ _) rfl ?_
              exact ⟨⟨_, rfl⟩, .inr ⟨_, by have := HPP.out; rw [HRS.out, ← List.append_assoc] at this; exact this, hJx3⟩⟩
        · obtain rfl : m = i := by omega
          gi_wp2
          go_roundw
          case rel => exact ⟨m + 1, by omega, by go_num, by rw [HS.out]; exact HJs.out, HK.out⟩
          case measure => simp [intOf]; omega
    · obtain rfl : i = ts.length := by omega
      gi_wp2
      go_end0
      exact ⟨⟨_, rfl⟩, .inl ⟨_, rfl, HJs.out⟩⟩
end Go.Proofs.Ytegejcmihojhbaa
