/-
  Walks of slices.Grow from nothing, slices.Concat of two rows of holds, a spot's queue.
  No condition but sizes.
  Walk of can: may a wish be granted?
  Of modes that are known.
  One grant after another, in plain lists; a spot's blocks behind a grant.
  No condition.
-/
import Derived.Test.YtokeciekncincaaGreatPkF11
import Derived.Lib.AppendZeros
import Derived.Test.YtokeciekncincaaGreatPkF1
namespace Go.Proofs.YtokeciekncincaaGreat
open Go Go.RowKit Go.Maps

/-- A new row of the call's own. -/
def NewH (l : List (Int × Int)) (w : World) (e : Ending) (w' : World) : Prop :=
  ∃ v, e = .returned v ∧ OwnH w' v l ∧ (∀ k, v.ownBlock = some k → w.heap.size ≤ k) ∧ Fr w w' Nil
set_option maxRecDepth 100000 in
set_option maxHeartbeats 2000000 in
theorem grow_any (n : Nat) (hn : n ≤ 1000000) (w : World) : Calls Tryz.prog 86 #[.slice none 0 0, .int .i64 (n : Int)] w (NewH [] w) := by
  by_cases h0 : n = 0
  · subst h0
    go_enter Tryz.func86, Tryz.ntmps86
    go_wp2_with fail
    go_ret
    exact ⟨_, rfl, OwnH.nil _, (fun k hk => by cases hk), Fr.refl _ _⟩
  · obtain ⟨i, z, hu, hi, hz, hsz, hby, hzs, hs0, hbb⟩ := holdT
    have hrun := Go.Lib.run_append_nil_zeros (P := Tryz.prog) w 38 3 38 42 i z .i64 .i64 hu Tryz.underlying3 hi hz n (by omega) (by omega) (by omega) (by rw [hby]; omega)
    have hge := grownCap_ge w n 0 42
    have hlm := grownCap_le_maxLen w n 0 42 (by unfold maxLen; omega)
    have hbk := Bk.new w.drew 42 (Builtin.zeroCells z.cells n ++ Builtin.zeroCells z.cells (grownCap w n 0 42 - n))
    have hlen : (Builtin.zeroCells z.cells n ++ Builtin.zeroCells z.cells (grownCap w n 0 42 - n)).toList.length = grownCap w n 0 42 * 2 := by
      rw [Array.length_toList, Array.size_append, size_zeroCells, size_zeroCells, hzs, ← Nat.add_mul]
      congr 1; omega
    have HF := Lib.hid (((Fr.refl w Nil).drew).alloc (.cells (Builtin.zeroCells z.cells n ++ Builtin.zeroCells z.cells (grownCap w n 0 42 - n)) 42))
    have HO : Hid (OwnH (w.drew.alloc (.cells (Builtin.zeroCells z.cells n ++ Builtin.zeroCells z.cells (grownCap w n 0 42 - n)) 42)) (.slice (some ⟨w.heap.size, 0, none⟩) 0 (grownCap w n 0 42)) []) := by
      show World.ownsRow _ _ _ _ _ _ _
      refine ⟨rfl, .inr ⟨w.heap.size, _, _, rfl, Nat.zero_le _, hbk, Nat.zero_le _, hlm, by simpa using hlen, by simp⟩⟩
    generalize grownCap w n 0 42 = nc at *
    generalize w.drew.alloc (.cells (Builtin.zeroCells z.cells n ++ Builtin.zeroCells z.cells (nc - n)) 42) = w1 at *
    have hn1 : (0 : Int) < (n : Int) := by omega
    have hn2 : ¬ ((n : Int) < 0) := by omega
    clear hbk hlen hi hz hzs hs0 hbb hu hsz hby
    go_enter Tryz.func86, Tryz.ntmps86
    go_wp2_with (at_builtin; refine Go.Lib.wpList_append_run _ rfl _ _ _ _ rfl _ _ rfl rfl _ _ hrun ?_)
    go_ret
    exact ⟨_, rfl, HO.out, (fun k hk => by cases hk; exact Nat.le_refl _), HF.out⟩
set_option maxRecDepth 100000 in
set_option maxHeartbeats 4000000 in
theorem concat_any {uv rv : Value} {U R : List (Int × Int)} (j : Nat) (w : World) (hu : OwnH w uv U) (hr : OwnH w rv R) (q0 : w.cell? ⟨j, 0, none⟩ = some uv) (q1 : w.cell? ⟨j, 1, none⟩ = some rv) (hl : U.length + R.length ≤ 1000000) :
    Calls Tryz.prog 59 #[.slice (some ⟨j, 0, none⟩) 2 2] w (NewH (U ++ R) w) := by
  have HU := Lib.hid hu
  have HR := Lib.hid hr
  obtain ⟨ua, uc, rfl⟩ := hu.shape
  obtain ⟨ra, rc, rfl⟩ := hr.shape
  have cG := grow_any (U.length + R.length) hl w
  rw [Int.natCast_add] at cG
  have hlu : (U.length : Int) ≤ 1000000 := by omega
  have hlr : (R.length : Int) ≤ 1000000 := by omega
  have HL := Lib.hid hl
  have HQ0 := Lib.hid q0
  have HQ1 := Lib.hid q1
  clear hu hr hl
  go_enter Tryz.func59, Tryz.ntmps59
  go_wp2_with fail
  go_loopw [3, 11] (fun vs vi wr => wr = w ∧ ((vi = .int .i64 0 ∧ vs = .int .i64 0) ∨ (vi = .int .i64 1 ∧ vs = .int .i64 (U.length : Int)) ∨ (vi = .int .i64 2 ∧ vs = .int .i64 ((U.length : Int) + (R.length : Int))))) (fun vs vi _ => 2 - (intOf vi).toNat)
  case atStart => exact ⟨rfl, .inl ⟨rfl, rfl⟩⟩
  case round =>
    obtain ⟨rfl, hrel⟩ := hrel
    rcases hrel with ⟨rfl, rfl⟩ | ⟨rfl, rfl⟩ | ⟨rfl, rfl⟩
    · have hn : ¬ ((U.length : Int) < 0) := by omega
      go_wp2_with fail
      go_roundw
      case rel => exact ⟨by first | rfl | trivial, .inr (.inl ⟨rfl, by go_num⟩)⟩
      case measure => simp [intOf]
    · have hn : ¬ ((U.length : Int) + (R.length : Int) < 0) := by omega
      go_wp2_with fail
      go_roundw
      case rel => exact ⟨by first | rfl | trivial, .inr (.inr ⟨rfl, by go_num⟩)⟩
      case measure => simp [intOf]
    · clear q0 q1
      go_wp2_with fail
      refine cG.mono ?_
      rintro e w1 ⟨v1, rfl, h1, h2, h3⟩
      obtain ⟨a1, c1, rfl⟩ := h1.shape
      have H1 := Lib.hid h1
      have H2 := Lib.hid h2
      have H3 := Lib.hid h3
      have HN : Hid (∀ k, (Value.slice ua U.length uc).ownBlock = some k → k < wr.heap.size) := fun k hk => HU.out.lt hk
      have HN2 : Hid (∀ k, (Value.slice ra R.length rc).ownBlock = some k → k < wr.heap.size) := fun k hk => HR.out.lt hk
      clear h1 h2 h3 cG
      obtain ⟨w, rfl⟩ : ∃ w, w = wr := ⟨_, rfl⟩
      go_wp2_with fail
      go_loopw [6, 27] (fun vs vi wr => Hid (Fr w wr Nil) ∧ ∃ (a : Option Addr) (n c : Nat) (l : List (Int × Int)), vs = .slice a n c ∧ Hid (l.length = n) ∧ Hid (OwnH wr (.slice a n c) l) ∧ Hid (∀ k, (Value.slice a n c).ownBlock = some k → w.heap.size ≤ k) ∧ ((vi = .int .i64 0 ∧ l = []) ∨ (vi = .int .i64 1 ∧ l = U) ∨ (vi = .int .i64 2 ∧ l = U ++ R))) (fun _ vi _ => 2 - (intOf vi).toNat)
      case atStart => exact ⟨H3.out, _, _, _, [], rfl, rfl, H1.out, H2.out, .inl ⟨rfl, rfl⟩⟩
      case round =>
        clear H1 H2 H3
        obtain ⟨HF, a, n, c, l, rfl, HLn, HO, HV, hrel⟩ := hrel
        have HU2 := Lib.hid (HU.out.fr HF.out fun _ _ h => h)
        have HR2 := Lib.hid (HR.out.fr HF.out fun _ _ h => h)
        obtain ⟨wo, rfl⟩ : ∃ wo : World, wo = wr := ⟨_, rfl⟩
        rcases hrel with ⟨rfl, rfl⟩ | ⟨rfl, rfl⟩ | ⟨rfl, rfl⟩
        · have q0 := HF.out.cell HQ0.out (fun h => h)
          have hn0 : n = 0 := HLn.out.symm
          subst hn0
          go_wp2_with (at_builtin; refine wpList_app _ rfl _ _ 38 rfl holdT (.slice a 0 c) rfl (n := 0) (xs := []) HO.out _ rfl (SlAt.of_own HU2.out).1 (hold2_one _) (by have := HL.out; omega) ?_)
          intro g cap w2 ho hg hb
          have HO2 : Hid (OwnH w2 (.slice g U.length cap) U) := ho
          have HG := Lib.hid hg
          have HB := Lib.hid hb
          clear ho hg hb
          go_wp2_with fail
          go_roundw
          case rel =>
            refine ⟨HF.out.grown HG.out fun k hk hlt => ?_, _, _, _, U, rfl, rfl, HO2.out, fun k hk => ?_, .inr (.inl ⟨rfl, rfl⟩)⟩
            · have := HV.out k hk; omega
            · rcases HB.out with h | h
              · exact HV.out k (h.symm.trans hk)
              · rw [h] at hk; cases hk; exact HF.out.size
          case measure => simp [intOf]
        · have q0 := HF.out.cell HQ1.out (fun h => h)
          have hn0 : n = l.length := HLn.out.symm
          subst hn0
          go_wp2_with (at_builtin; refine wpList_app _ rfl _ _ 38 rfl holdT (.slice a l.length c) rfl HO.out _ rfl (SlAt.of_own HR2.out).1 (hold2_one _) (by have := HL.out; omega) ?_)
          intro g cap w2 ho hg hb
          have HO2 : Hid (OwnH w2 (.slice g (l.length + R.length) cap) (l ++ R)) := by
            have e : (l ++ R).flatMap hold2 = l.flatMap hold2 ++ R.flatMap hold2 := List.flatMap_append
            show World.ownsRow _ _ _ _ _ _ _
            rw [e, List.length_append]
            exact ho
          have HG := Lib.hid hg
          have HB := Lib.hid hb
          clear ho hg hb
          go_wp2_with fail
          go_roundw
          case rel =>
            refine ⟨HF.out.grown HG.out fun k hk hlt => ?_, _, _, _, l ++ R, rfl, List.length_append, HO2.out, fun k hk => ?_, .inr (.inr ⟨rfl, rfl⟩)⟩
            · have := HV.out k hk; omega
            · rcases HB.out with h | h
              · exact HV.out k (h.symm.trans hk)
              · rw [h] at hk; cases hk; exact HF.out.size
          case measure => simp [intOf]
        · go_wp2_with fail
          go_ret
          exact ⟨_, rfl, HO.out, HV.out, HF.out⟩
/-! ### a spot's queue -/
abbrev xptr (b : Nat) : Value := .pointer (some ⟨b, 0, none⟩)
set_option maxRecDepth 100000 in
set_option maxHeartbeats 2000000 in
theorem queue_any {g : GX} {Hs U R : List (Int × Int)} {w : World} (h : XAt w g Hs U R) (hl : U.length + R.length ≤ 1000000) :
    Calls Tryz.prog 28 #[xptr g.xb] w (NewH (U ++ R) w) := by
  have k1 : ∀ w', KeptN w w' → w'.cell? ⟨g.xb, 1, none⟩ = some g.uv := KeptN.cell (h.box.cell 1)
  have k2 : ∀ w', KeptN w w' → w'.cell? ⟨g.xb, 2, none⟩ = some g.rv := KeptN.cell (h.box.cell 2)
  obtain ⟨ua, uc, hu⟩ := h.up.shape
  obtain ⟨ra, rc, hr⟩ := h.rest.shape
  have HU := h.up
  have HR := h.rest
  rw [hu] at k1 HU
  rw [hr] at k2 HR
  have HL := Lib.hid hl
  have HUU := Lib.hid HU
  have HRR := Lib.hid HR
  generalize g.xb = xb at *
  clear hu hr h HU HR hl
  go_enter Tryz.func28, Tryz.ntmps28
  go_wp2_with fail
  refine wp_region_sink 10 (KeptN w) (by kernel_rfl) ?_
  have hSa : KeptN w w.drew := KeptN.start w
  refine tk 0 hSa ?_
  refine tk 1 hSa ?_
  refine tk 2 hSa ?_
  try simp only [Act.put, sA, sB, sC]
  refine tk 3 hSa ?_ (hy := by intro _ w; have ck1 := k1 _ w; go_simp <;> with_reducible rfl)
  try simp only [Act.put, sA, sB, sC]
  refine tk 4 hSa ?_
  refine tk 5 hSa ?_
  refine tk 6 hSa ?_
  try simp only [Act.put, sA, sB, sC]
  refine tk 7 hSa ?_ (hy := by intro _ w; have ck2 := k2 _ w; go_simp <;> with_reducible rfl)
  try simp only [Act.put, sA, sB, sC]
  refine on1 8 fun K hK => ?_
  go_simp
  have hnb := Bk.new w.drew 38 #[.slice ua U.length uc, .slice ra R.length rc]
  have hSb := hSa.next ((Fr.refl _ Nil).alloc (.cells #[.slice ua U.length uc, .slice ra R.length rc] 38))
  refine hK.out _ _ hSb ?_
  clear hK K
  try simp only [Act.put, sA, sB, sC]
  refine on1 9 fun K hK => ?_
  go_simp
  refine (concat_any _ _ (HUU.out.fr hSb.fr fun _ _ h => h) (HRR.out.fr hSb.fr fun _ _ h => h) (hnb.cell 0) (hnb.cell 1) HL.out).mono ?_
  rintro e w1 ⟨v1, rfl, h1, h2, h3⟩
  have hSc := hSb.next h3
  refine hK.out _ _ hSc ?_
  clear hK K
  have H1 := Lib.hid h1
  have H2 := Lib.hid h2
  have HS := Lib.hid hSb.fr
  have HSC := Lib.hid hSc.fr
  clear h1 h2 h3
  try simp only [Act.put, sA, sB, sC]
  refine wpAnyS_last (i := 10) rfl (by kernel_rfl) (by decide) (by kernel_rfl) (by rfl) fun K hK => ?_
  go_simp
  refine hK.out _ _ ?_
  clear hK K hSa hSb hSc hnb k1 k2
  obtain ⟨a1, c1, rfl⟩ := H1.out.shape
  go_wp2_with fail
  go_ret
  exact ⟨_, rfl, H1.out, fun k hk => by have := H2.out k hk; have := HS.out.size; omega, HSC.out⟩
end Go.Proofs.YtokeciekncincaaGreat
namespace Go.Proofs.YtokeciekncincaaGreat
open Go Go.RowKit Go.Maps

theorem Tryz.invI64 : ∀ v kl, keyOf Tryz.prog 2 v = some kl → ∃ x : Int, v = Value.int .i64 x ∧ kl = ikey x := fun v kl h => by
  obtain ⟨x, rfl, rfl, _⟩ := keyOf_int_inv Tryz.underlying2 h
  exact ⟨x, rfl, rfl⟩
/-- As the program has it. -/
def canP (Hs : List (Int × Int)) (who m : Int) : Bool := Hs.all fun p => p.1 == who || besM m p.2
def CanRet (Hs : List (Int × Int)) (who m : Int) (w : World) (e : Ending) (w' : World) : Prop := e = .returned (.bool (canP Hs who m)) ∧ Fr w w' Nil
theorem canP_false {Hs : List (Int × Int)} {who m : Int} {p : Int × Int} (h : p ∈ Hs) (h1 : p.1 ≠ who) (h2 : besM m p.2 = false) : canP Hs who m = false := by
  unfold canP
  rw [List.all_eq_false]
  exact ⟨p, h, by simp [h1, h2]⟩
set_option maxRecDepth 100000 in
set_option maxHeartbeats 4000000 in
theorem can_any {g : GX} {Hs U R : List (Int × Int)} {w : World} {who m : Int} (h : XAt w g Hs U R) (hm : ModeOk m) (hM : ∀ p ∈ Hs, ModeOk p.2) :
    Calls Tryz.prog 34 #[xptr g.xb, .agg #[.int .i64 who, .int .u8 m]] w (CanRet Hs who m w) := by
  obtain ⟨wx, hwx⟩ : ∃ wx, w.alloc (.cells #[.int .i64 who, .int .u8 m] 42) = wx := ⟨_, rfl⟩
  have hf : Fr w wx Nil := by rw [← hwx]; exact (Fr.refl w Nil).alloc _
  have hb : Bk wx w.heap.size 42 [.int .i64 who, .int .u8 m] := by rw [← hwx]; exact Bk.new w _ _
  have hx := h.fr0 hf
  have hmap := hx.holds
  have hsz : wx.heap.size = w.heap.size + 1 := by rw [← hwx]; simp
  have q0 : wx.cell? ⟨g.xb, 0, none⟩ = some (.map (some g.hb)) := hx.box.cell 0
  have HF := Lib.hid hf
  have HB := Lib.hid hb
  have HM := Lib.hid hM
  have HMAP := Lib.hid hmap
  have HMM := Lib.hid hm
  have HSZ := Lib.hid hsz
  generalize g.xb = xb at *
  generalize g.hb = hb' at *
  clear hf hb hx hmap h hM hm hsz
  go_enter Tryz.func34, Tryz.ntmps34
  go_wp2_with (at_range; refine wpList_map_range _ rfl _ 70 rfl 2 31 Tryz.keyI64 Tryz.underlying70 intKey hb' Hs rfl HMAP.out ?_; intro w0 hr0 hf0 hs0)
  have Hr0 := Lib.hid hr0
  have Hf0 : Hid (Fr wx w0 Nil) := hf0
  clear hr0 hf0 hs0
  go_frame
  generalize hrb : wx.heap.size = rb at *
  have HRB := Lib.hid hrb
  clear hrb
  generalize w.heap.size = N at *
  go_loopw [] (fun wr => ∃ L, Hid (RangeAt Tryz.prog 2 ikey modV wr hb' rb Hs L) ∧ Hid (Fr wx wr Nil) ∧ Hid (canP Hs who m = canP L who m)) (fun wr => wr.rangeLeft hb' rb)
  case atStart => exact ⟨Hs, Hr0.out, Hf0.out, rfl⟩
  case round =>
    clear Hr0 Hf0
    obtain ⟨L, Hr, Hf, HC⟩ := hrel
    go_wp2_with (at_next; refine wpList_map_next _ rfl _ rfl 2 Tryz.keyI64 intKey (Value.int .i64) Tryz.invI64 hb' rb Hs L rfl Hr.out ?_ ?_)
    · intro hL
      have HL := Lib.hid hL
      clear hL
      go_wp2_with fail
      go_ret
      refine ⟨?_, HF.out.trans0 Hf.out⟩
      rw [HC.out, HL.out]
      rfl
    · intro x c A B w1 hL hr1 hf1 hs1 hlt hen
      have Hr1 := Lib.hid hr1
      have Hf1 : Hid (Fr wx w1 Nil) := Hf.out.trans hf1 fun j hj hj2 => by have := HRB.out; omega
      have HL := Lib.hid hL
      have Hlt := Lib.hid hlt
      have hbc := HB.out.fr Hf1.out (fun h => h)
      have p0 : w1.cell? ⟨N, 0, none⟩ = some (.int .i64 who) := hbc.cell 0
      have p1 : w1.cell? ⟨N, 1, none⟩ = some (.int .u8 m) := hbc.cell 1
      have HIN : Hid ((x, c) ∈ Hs) := Hr.out.sub _ (by rw [HL.out]; exact List.mem_append.2 (.inr List.mem_cons_self))
      have HCC : Hid (canP L who m = (canP (A ++ B) who m && (x == who || besM m c))) := by
        rw [HL.out]
        show List.all _ _ = (List.all _ _ && _)
        rw [List.all_append, List.all_append, List.all_cons]
        show (_ && ((x == who || besM m c) && _)) = _
        generalize (x == who || besM m c) = y
        generalize A.all _ = ya
        generalize B.all _ = yb
        cases y <;> cases ya <;> cases yb <;> rfl
      clear hL hr1 hf1 hlt hbc q0
      cases hxw : (x == who) with
      | true =>
        have hxn : (x != who) = false := by simp [bne, hxw]
        have HX := Lib.hid hxw
        clear hxw
        go_wp2_with fail
        go_roundw
        case rel => exact ⟨A ++ B, Hr1.out, Hf1.out, HC.out.trans (HCC.out.trans (by rw [HX.out]; simp))⟩
        case measure => exact Hlt.out
      | false =>
        have hxn : (x != who) = true := by simp [bne, hxw]
        have HX := Lib.hid hxw
        clear hxw
        go_wp2_with fail
        refine (bes_any HMM.out (HM.out _ HIN.out) _).mono ?_
        rintro e w2 ⟨rfl, rfl⟩
        cases hbb : besM m c with
        | true =>
          have HBB := Lib.hid hbb
          clear hbb
          go_wp2_with fail
          go_roundw
          case rel => exact ⟨A ++ B, Hr1.out, Hf1.out, HC.out.trans (HCC.out.trans (by rw [HX.out, HBB.out]; simp))⟩
          case measure => exact Hlt.out
        | false =>
          have HBB := Lib.hid hbb
          clear hbb
          go_wp2_with fail
          go_ret
          refine ⟨?_, HF.out.trans0 Hf1.out⟩
          rw [canP_false HIN.out (by have := HX.out; simpa using this) HBB.out]
          rfl
end Go.Proofs.YtokeciekncincaaGreat
namespace Go.Proofs.YtokeciekncincaaGreat
open Go Go.RowKit Go.Maps

/-- Behind these grants D is as D1. -/
def Goes (s : Spot) (D : LkS) (pre : List Int) (D1 : LkS) : Prop := ∀ t, regrantL (pre.length + t) D s = (pre ++ (regrantL t D1 s).1, (regrantL t D1 s).2)
theorem Goes.nil (s : Spot) (D : LkS) : Goes s D [] D := fun t => by
  show regrantL (0 + t) D s = _
  rw [Nat.zero_add, List.nil_append]
theorem Goes.snoc {s : Spot} {D D1 : LkS} {pre : List Int} {e : LkE} {l : List LkE} (h : Goes s D pre D1) (hq : queueL D1.H D1.W s = e :: l) (hc : canL D1.H e.who s e.m = true) : Goes s D (pre ++ [e.who]) (grantL D1 e s) := fun t => by
  have h1 := h (t + 1)
  rw [List.length_append, List.length_singleton, Nat.add_assoc, Nat.add_comm 1 t, h1]
  have h2 : regrantL (t + 1) D1 s = (e.who :: (regrantL t (grantL D1 e s) s).1, (regrantL t (grantL D1 e s) s).2) := by
    rw [regrantL, hq]
    dsimp only
    rw [if_pos hc]
  rw [h2, List.append_assoc]
  rfl
theorem Goes.done {s : Spot} {D D1 : LkS} {pre : List Int} (h : Goes s D pre D1) (hq : queueL D1.H D1.W s = [] ∨ ∃ e l, queueL D1.H D1.W s = e :: l ∧ canL D1.H e.who s e.m = false) : regrantL D.W.length D s = (pre, D1) := by
  have h0 : ∀ t, regrantL t D1 s = ([], D1) := fun t => by
    cases t with
    | zero => rfl
    | succ t =>
      rw [regrantL]
      rcases hq with hq | ⟨e, l, hq, hc⟩
      · rw [hq]
      · rw [hq]
        dsimp only
        rw [hc]
        rfl
  have h1 := h D.W.length
  rw [h0, List.append_nil, Nat.add_comm, regrantL_enough] at h1
  exact h1
/-- A table that is well formed, of at most N entries. -/
structure DOk (N : Nat) (D : LkS) : Prop where
  inv : LInv D
  few : D.H.length + D.W.length ≤ N
  wf : AllE (fun who s => (Lit.int .i64 who).wf = true ∧ SWf s) D
theorem dropA_len {W : List LkE} {e : LkE} (he : e ∈ W) : (dropA W e.who).length < W.length := by
  unfold dropA
  refine Nat.lt_of_le_of_ne (List.length_filter_le _ _) fun h => ?_
  rw [List.length_filter_eq_length_iff] at h
  have := h e he
  simp at this
theorem putH_le (H : List LkE) (who m : Int) (s : Spot) : (putH H who s m).length ≤ H.length + 1 := by
  unfold putH dropS
  rw [List.length_append, List.length_singleton]
  exact Nat.add_le_add_right (List.length_filter_le _ _) 1
theorem DOk.grant {N : Nat} {D : LkS} (h : DOk N D) {s : Spot} {e : LkE} {l : List LkE} (hq : queueL D.H D.W s = e :: l) : DOk N (grantL D e s) := by
  obtain ⟨he, rfl⟩ := queueL_mem (H := D.H) (W := D.W) (s := s) (e := e) (by rw [hq]; exact List.mem_cons_self)
  refine ⟨grantL_inv h.inv he _, ?_, all_grant h.wf he⟩
  have h1 := putH_le D.H e.who e.m e.s
  have h2 := dropA_len he
  have h3 := h.few
  show (putH D.H e.who e.s e.m).length + (dropA D.W e.who).length ≤ N
  omega
/-- Who waits, and for what. -/
def pairsW (W : List LkE) : List (Int × Spot) := W.map fun e => (e.who, e.s)
theorem pairsW_drop (W : List LkE) (who : Int) : pairsW (dropA W who) = (pairsW W).filter fun p => !decide (p.1 = who) := by
  unfold pairsW dropA
  rw [List.filter_map]
  refine congrArg _ (List.filter_congr fun e _ => ?_)
  show (e.who != who) = !decide (e.who = who)
  by_cases h : e.who = who <;> simp [h]
/-- A table of locks as D says, but for who waits. -/
def LkV (w : World) (lb sb wb : Nat) (D : LkS) (V : List (Int × Spot)) (G : List (Spot × GX)) (S : Nat → Prop) : Prop :=
  LkG w lb sb wb D.most (holdsOf D.H) (fun s => prs (upL D.H D.W s)) (fun s => prs (restL D.H D.W s)) V G S
theorem prs_queue (H W : List LkE) (s : Spot) : prs (queueL H W s) = prs (upL H W s) ++ prs (restL H W s) := by
  unfold prs queueL
  rw [List.map_append]
theorem prs_notOf (l : List LkE) (who : Int) : prs (l.filter fun e => e.who != who) = notOf who (prs l) := prs_filter l who
theorem can_is (H : List LkE) (who : Int) (s : Spot) (m : Int) : canP (holdsOf H s) who m = canL H who s m := (canL_holds H who s m).symm
theorem holds_modes {D : LkS} (h : LInv D) (s : Spot) : ∀ p ∈ holdsOf D.H s, ModeOk p.2 := fun p hp => by
  obtain ⟨e, he, rfl⟩ := List.mem_map.1 hp
  exact (h.hm e (List.mem_filter.1 he).1).1
theorem prs_len (l : List LkE) : (prs l).length = l.length := List.length_map _
theorem queue_few {N : Nat} {D : LkS} (h : DOk N D) (s : Spot) : (prs (upL D.H D.W s)).length + (prs (restL D.H D.W s)).length ≤ N := by
  have h1 := queueL_le D.H D.W s
  unfold queueL at h1
  rw [List.length_append] at h1
  rw [prs_len, prs_len]
  have := h.few
  omega
theorem holds_few {N : Nat} {D : LkS} (h : DOk N D) (s : Spot) : (holdsOf D.H s).length ≤ N := by
  have h1 : (holdsOf D.H s).length ≤ D.H.length := by
    unfold holdsOf
    rw [prs_len]
    exact List.length_filter_le _ _
  have := h.few
  omega
section
variable {w w' : World} {lb sb wb : Nat} {D : LkS} {V : List (Int × Spot)} {G : List (Spot × GX)} {S : Nat → Prop}
/-- The table behind a grant at s; who waits is not yet told. -/
theorem LkV.grant {s : Spot} {g : GX} {e : LkE} {uv rv : Value} (h : LkV w lb sb wb D V G S) (hD : LInv D) (he : e ∈ D.W) (hes : e.s = s) (hg : (s, g) ∈ G) (hbox : Bk w' g.xb 72 [.map (some g.hb), uv, rv])
    (hm : MapAt Tryz.prog 2 ikey modV w' g.hb (((holdsOf D.H s).filter fun p => !decide (p.1 = e.who)) ++ [(e.who, e.m)])) (hu : OwnH w' uv (notOf e.who (prs (upL D.H D.W s)))) (hr : OwnH w' rv (notOf e.who (prs (restL D.H D.W s))))
    (hu2 : ∀ k, uv.ownBlock = some k → g.uv.ownBlock = some k) (hr2 : ∀ k, rv.ownBlock = some k → g.rv.ownBlock = some k) (hf : Fr w w' g.own) :
    ∃ G' g', LkV w' lb sb wb (grantL D e s) V G' S ∧ (s, g') ∈ G' ∧ g'.xb = g.xb := by
  have hx := h.at_ _ hg
  have hown : ∀ k, (⟨g.xb, g.hb, uv, rv⟩ : GX).own k → g.own k := by
    rintro k (rfl | rfl | hk | hk)
    · exact .inl rfl
    · exact .inr (.inl rfl)
    · exact .inr (.inr (.inl (hu2 k hk)))
    · exact .inr (.inr (.inr (hr2 k hk)))
  have hx' : XAt w' ⟨g.xb, g.hb, uv, rv⟩ (holdsOf (grantL D e s).H s) (prs (upL (grantL D e s).H (grantL D e s).W s)) (prs (restL (grantL D e s).H (grantL D e s).W s)) := by
    refine ⟨hbox, ?_, ?_, ?_, fun k hk hk2 => hx.far k (hu2 k hk) (hr2 k hk2)⟩
    · show MapAt _ _ _ _ _ _ (holdsOf (putH D.H e.who s e.m) s)
      rw [holdsOf_putH]; exact hm
    · show OwnH w' uv (prs (upL (putH D.H e.who s e.m) (dropA D.W e.who) s))
      rw [upL_grant, prs_notOf]; exact hu
    · show OwnH w' rv (prs (restL (putH D.H e.who s e.m) (dropA D.W e.who) s))
      rw [restL_grant, prs_notOf]; exact hr
  have h1 := LkG.turn (h' := holdsOf (grantL D e s).H) (u' := fun s' => prs (upL (grantL D e s).H (grantL D e s).W s')) (r' := fun s' => prs (restL (grantL D e s).H (grantL D e s).W s')) h hg (g' := ⟨g.xb, g.hb, uv, rv⟩) rfl hx' hf (fun k hk => .inl (hown k hk)) (fun s' hs' => by
    have hne : e.s ≠ s' := by rw [hes]; exact fun h => hs' h.symm
    refine ⟨holdsOf_putH_ne _ _ _ hs', ?_, ?_⟩
    · show prs (upL (putH D.H e.who s e.m) (dropA D.W e.who) s') = _
      rw [upL_grant, filter_other hD he hne fun x hx => queueL_of D.H D.W s' x (List.mem_append.2 (.inl hx))]
    · show prs (restL (putH D.H e.who s e.m) (dropA D.W e.who) s') = _
      rw [restL_grant, filter_other hD he hne fun x hx => queueL_of D.H D.W s' x (List.mem_append.2 (.inr hx))])
  have h2 := h1.more (T := S) (fun k hk => hk.elim id fun hk => h.inX _ hg k (hown k hk)) fun k hk => Nat.lt_of_lt_of_le (h.lt k hk) hf.size
  exact ⟨_, _, h2, List.mem_map.2 ⟨(s, g), hg, if_pos rfl⟩, rfl⟩
theorem LkV.fr {T : Nat → Prop} (h : LkV w lb sb wb D V G S) (hf : Fr w w' T) (hd : ∀ k, S k → ¬ T k) : LkV w' lb sb wb D V G S := LkG.fr h hf hd
theorem LkV.fr0 (h : LkV w lb sb wb D V G S) (hf : Fr w w' Nil) : LkV w' lb sb wb D V G S := LkG.fr0 h hf
end
end Go.Proofs.YtokeciekncincaaGreat
