/-
  Walk of RunLooks: it answers true.
  No condition.
-/
import Derived.Test.YtgpekgnhbccnoaaPkLk43
import Derived.Test.YtgpekgnhbccnoaaPkLk44
import Derived.Test.YtgpekgnhbccnoaaPkLk24
import Derived.Test.YtgpekgnhbccnoaaPkLk2
namespace Go.Proofs.Ytgpekgnhbccnoaa
open Go Go.RowKit
attribute [local go_sem ↓] Go.wp_at_zero Go.wp_at_succ

abbrev stOf (sb : Nat) (lv tv vv ov : Value) (L : List InstrD) (TB : List Int) (s : MachD) : StV := ⟨sb, lv, tv, vv, ov, L, TB, s.at', s.vars, s.out⟩
theorem stOf_F {sb : Nat} {lv tv vv ov : Value} {L : List InstrD} {TB : List Int} {s : MachD} {nv N K : Nat} (h : SInv TB nv L.length N K s) (hc : COk TB nv L) (hf : FewC L) (hnv : nv ≤ 100000) (hTB : TB.length ≤ 100000) : StF (stOf sb lv tv vv ov L TB s) nv :=
  ⟨hf, h.len, hnv, h.at', hc, hTB⟩
def mach0 (nv : Nat) (args : List Int) (M : List MTab) : MachD := ⟨0, vars0 nv args, [], M, []⟩
theorem mach0_inv {TB : List Int} {nv : Int} {L : List InstrD} {args : List Int} {M : List MTab} (hr : RightP TB nv L) (ha : (args.length : Int) ≤ nv) (hf : FillOk TB (64 * 4) M) : SInv TB nv.toNat L.length 256 0 (mach0 nv.toNat args M) :=
  ⟨hf.good, hf.few, hf.cols, by show (vars0 _ _).length = _; unfold vars0; rw [List.length_append, List.length_replicate]; omega, hr.ne, Nat.zero_le _, Nat.zero_le _⟩
/-- Two new states, of the same instructions and arguments; or none. -/
def TwoNew (TB : List Int) (nv : Int) (L : List InstrD) (args : List Int) : Prop := RightP TB nv L ∧ (args.length : Int) ≤ nv
theorem new_lies {w0 W w' : World} {l : List Thing} {q : StV} {C : Nat → Prop} (h : Lies w0 W l) (hst : StAt w' q C) (hq : ∀ k, q.has C k → W.heap.size ≤ k) (hf : Fr W w' Nil) : Lies w0 w' (l ++ [stT q]) :=
  h.add (stT q) (S := q.has C) ⟨C, hst, fun _ => Iff.rfl⟩ hq hf
theorem SlRet.int {xs : List Int} {w w' : World} {e : Ending} (h : SlRet xs w e w') : ∃ a c, e = .returned (.slice a xs.length c) ∧ IntsAt w' (.slice a xs.length c) xs ∧ Fr w w' Nil := by
  obtain ⟨a, c, he, ho, hf⟩ := h
  exact ⟨a, c, he, SlAt.ints (SlAt.of_own ho).1, hf⟩
theorem step_val {r : WantD × Int × MachD} {x : WantD} (h1 : r.1 = x) (h2 : r.2.1 = 0) : Ending.returned (.tuple #[r.1.val, .int .i64 r.2.1]) = .returned (.tuple #[x.val, .int .i64 0]) := by rw [h1, h2]
section
variable {w0 W : World} {l : List Thing} {sb : Nat} {lv tv vv ov : Value} {L : List InstrD} {TB : List Int} {s : MachD} {nv : Nat} {n : InstrD}
theorem go_yes (h : Lies w0 W l) (i : Nat) (hi : l[i]? = some (stT (stOf sb lv tv vv ov L TB s))) (hf : StF (stOf sb lv tv vv ov L TB s) nv) (hn : L[s.at']? = some n) (hk : goes (nextP n s.vars).kind = true) :
    Calls Try.prog 18 #[.pointer (some ⟨sb, 0, none⟩)] W fun e W' => e = .returned (.int .i64 0) ∧ Lies w0 W' (l.set i (stT (stOf sb lv tv vv ov L TB { s with at' := s.at' + 1 }))) := by
  have h9 := go_any h i hi hf hn
  simp only [if_pos hk] at h9
  exact h9
theorem go_no (h : Lies w0 W l) (i : Nat) (hi : l[i]? = some (stT (stOf sb lv tv vv ov L TB s))) (hf : StF (stOf sb lv tv vv ov L TB s) nv) (hn : L[s.at']? = some n) (hk : goes (nextP n s.vars).kind = false) :
    Calls Try.prog 18 #[.pointer (some ⟨sb, 0, none⟩)] W fun e W' => e = .returned (.int .i64 4) ∧ Lies w0 W' l := by
  have h9 := go_any h i hi hf hn
  simp only [hk, Bool.false_eq_true, if_false] at h9
  have hself : l.set i (stT (stOf sb lv tv vv ov L TB s)) = l := by
    have hlt := (List.getElem?_eq_some_iff.1 hi).1
    rw [← (List.getElem?_eq_some_iff.1 hi).2]
    exact List.set_getElem_self hlt
  rw [hself] at h9
  exact h9
end
section
variable (lv tv av : Value) (L : List InstrD) (TB args : List Int) (nv : Int) (mm sn : Nat) (w : World)
set_option maxRecDepth 100000 in
set_option maxHeartbeats 16000000 in
theorem looks_any (h : CodeAt w lv L) (hcap : CapOk lv) (ht : IntsAt w tv TB) (ha : IntsAt w av args) (hmm : mm < 256) (hsn : sn < 256) :
    Calls Try.prog 4 #[lv, tv, .int .i64 nv, av, .int .u8 mm, .int .u8 sn] w fun e w' => e = .returned (.bool true) ∧ Fr w w' Nil := by
  obtain ⟨l0, lc, rfl⟩ := h.shape
  obtain ⟨t0, tc, rfl⟩ := ht.shape
  obtain ⟨a0, ac, rfl⟩ := ha.shape
  have H := Lib.hid h
  have HT := Lib.hid ht
  have HA := Lib.hid ha
  have HCAP := Lib.hid hcap
  clear h ht ha hcap
  go_enter Try.func4, Try.ntmps4
  go_wp2_with fail
  refine (few_any _ _ _ L TB args nv _ H.out HT.out HA.out).mono ?_
  rintro e w1 ⟨b, rfl, hfew, rfl⟩
  cases b
  · clear hfew
    go_wp2_with fail
    refine (works_any _).mono ?_
    rintro e w9 ⟨rfl, hf⟩
    have HF := Lib.hid hf
    clear hf
    go_wp2_with fail
    go_ret
    exact ⟨rfl, HF.out⟩
  have HFW := Lib.hid (hfew rfl)
  have hTB20 := (hfew rfl).2.1
  have hnv40 := (hfew rfl).2.2.1
  clear hfew
  go_wp2_with fail
  refine (rnew_st _ _ _ TB args nv L w H.out HCAP.out HT.out HA.out HFW.out.2.2.2.2 (by omega) (by omega)).mono ?_
  rintro e w1 h1
  rcases h1 with ⟨hright, hargs, qa, Ca, rfl, hsta, hqa, e1, e2, e3, e4, e5, hf1⟩ | ⟨hno, rfl, hf1⟩
  rotate_left
  · have HNO := Lib.hid hno
    have HL1 := Lib.hid (Lies.nil hf1)
    clear hno hf1
    go_wp2_with fail
    refine (rnew_st _ _ _ TB args nv L w1 (H.out.fr0 HL1.out.fr) HCAP.out (HT.out.fr0 HL1.out.fr) (HA.out.fr0 HL1.out.fr) HFW.out.2.2.2.2 (by omega) (by omega)).mono ?_
    rintro e w2 h2
    rcases h2 with ⟨hr2, ha2, _⟩ | ⟨_, rfl, hf2⟩
    · exact absurd ⟨hr2, ha2⟩ HNO.out
    have HL2 := Lib.hid (HL1.out.fr0 hf2)
    clear hf2 HL1
    go_wp2_with fail
    refine (filled_any HL2.out _ TB HT.out (by omega) mm (mm % 5) (by omega) hmm).mono ?_
    rintro e w3 h3
    rcases h3 with ⟨_, rb, qq, rfl, h3⟩ | ⟨_, rfl, h3⟩
    all_goals
      have HF3 := Lib.hid h3.fr
      clear h3 HL2
      go_wp2_with fail
      refine (works_any _).mono ?_
      rintro e w9 ⟨rfl, hf⟩
      have HF := Lib.hid (HF3.out.trans0 hf)
      clear hf
      go_wp2_with fail
      go_ret
      exact ⟨rfl, HF.out⟩
  obtain ⟨sa, la, ta, va, oa0, L', TB', at', vars, out⟩ := qa
  simp only at e1 e2 e3 e4 e5
  subst e1 e2 e3 e4 e5
  have hnv0 := hright.pos
  have HRT := Lib.hid hright
  have HAR := Lib.hid hargs
  have HL1 := Lib.hid (new_lies (Lies.nil (Fr.refl w Nil)) hsta hqa hf1)
  clear hright hargs hsta hqa hf1
  go_wp2_with fail
  refine (rnew_st _ _ _ TB' args nv L' w1 (H.out.fr0 HL1.out.fr) HCAP.out (HT.out.fr0 HL1.out.fr) (HA.out.fr0 HL1.out.fr) HFW.out.2.2.2.2 (by omega) (by omega)).mono ?_
  rintro e w2 h2
  rcases h2 with ⟨_, _, qb, Cb, rfl, hstb, hqb, e1, e2, e3, e4, e5, hf2⟩ | ⟨hno, _⟩
  rotate_left
  · exact absurd ⟨HRT.out, HAR.out⟩ hno
  obtain ⟨sb, lb, tb, vb, ob0, L, TB, at', vars, out⟩ := qb
  simp only at e1 e2 e3 e4 e5
  subst e1 e2 e3 e4 e5
  have HL2 := Lib.hid (new_lies HL1.out hstb hqb hf2)
  clear hstb hqb hf2 HL1
  go_wp2_with fail
  refine (filled_any HL2.out _ TB HT.out (by omega) mm (mm % 5) (by omega) hmm).mono ?_
  rintro e w3 h3
  rcases h3 with ⟨hcols, rb, qq, rfl, h3⟩ | ⟨_, rfl, h3⟩
  rotate_left
  · have HF3 := Lib.hid h3.fr
    clear h3 HL2
    go_wp2_with fail
    refine (works_any _).mono ?_
    rintro e w9 ⟨rfl, hf⟩
    have HF := Lib.hid (HF3.out.trans0 hf)
    clear hf
    go_wp2_with fail
    go_ret
    exact ⟨rfl, HF.out⟩
  have HFO := Lib.hid (filled_ok (m := mm % 5) hcols (by omega))
  have HIV := Lib.hid (mach0_inv HRT.out HAR.out HFO.out)
  have HCO := Lib.hid HRT.out.ok
  have hnvn : nv.toNat ≤ 100000 := by omega
  generalize filledM TB (mm % 5) = M0 at *
  have HL3 : Hid (Lies w w3 [stT (stOf sa la ta va oa0 L TB (mach0 nv.toNat args M0)), stT (stOf sb lb tb vb ob0 L TB (mach0 nv.toNat args M0)), rowsT rb M0, refM qq M0]) := Lib.hid h3
  clear h3 HL2 hcols
  go_wp2_with fail
  refine (st_copy HL3.out 2 rfl HFO.out.good).mono ?_
  rintro e w4 ⟨rc, rfl, h⟩
  have HL4 := Lib.hid h
  clear h HL3
  go_wp2_with fail
  refine (st_new HL4.out 1000).mono ?_
  rintro e w5 ⟨ua, rfl, h⟩
  have HL5 := Lib.hid h
  clear h HL4
  go_wp2_with fail
  refine (st_new HL5.out 1000).mono ?_
  rintro e w6 ⟨ub, rfl, h⟩
  obtain ⟨s0, hs0⟩ : ∃ s0, s0 = mach0 nv.toNat args M0 := ⟨_, rfl⟩
  have HL6 : Hid (Lies w w6 [stT (stOf sa la ta va oa0 L TB s0), stT (stOf sb lb tb vb ob0 L TB s0), rowsT rb s0.M, refM qq M0, rowsT rc s0.M, logT ua 1000 s0.lg, logT ub 1000 s0.lg]) := by
    subst hs0
    exact Lib.hid h
  rw [← hs0] at HIV
  clear h HL5 hs0
  obtain ⟨n0, hn0⟩ : ∃ n0, n0 = nv.toNat := ⟨_, rfl⟩
  rw [← hn0] at HIV HCO hnvn
  clear hn0
  go_wp2_with fail
  go_loopw [23] (fun vi wr => ∃ (i : Nat) (s : MachD) (oa ob : Value), i ≤ sn ∧ vi = .int .i64 i ∧ SInv TB n0 L.length (256 + i) i s ∧ Lies w wr [stT (stOf sa la ta va oa L TB s), stT (stOf sb lb tb vb ob L TB s), rowsT rb s.M, refM qq M0, rowsT rc s.M, logT ua 1000 s.lg, logT ub 1000 s.lg]) (fun vi _ => sn - (intOf vi).toNat)
  case atStart => exact ⟨0, s0, oa0, ob0, by omega, rfl, HIV.out, HL6.out⟩
  case round =>
    clear HL6 HIV
    obtain ⟨i, s, oa, ob, hi, rfl, hinv, h⟩ := hrel
    have HS := Lib.hid hinv
    have HL := Lib.hid h
    obtain ⟨wo, rfl⟩ : ∃ wo : World, wo = wr := ⟨_, rfl⟩
    clear hinv h
    by_cases hlt : i < sn
    · have hii : (i : Int) < (sn : Int) := by omega
      have HN := Lib.hid (at_get HS.out.at')
      have HFa := Lib.hid (stOf_F (sb := sa) (lv := la) (tv := ta) (vv := va) (ov := oa) HS.out HCO.out HFW.out.2.2.2.2 hnvn (by omega))
      have HFb := Lib.hid (stOf_F (sb := sb) (lv := lb) (tv := tb) (vv := vb) (ov := ob) HS.out HCO.out HFW.out.2.2.2.2 hnvn (by omega))
      obtain ⟨x, hx⟩ : ∃ x, x = nextP (L.getD s.at' default) s.vars := ⟨_, rfl⟩
      have HX := Lib.hid hx
      have hk6 := nextP_kinds (n := L.getD s.at' default) s.vars
      rw [← hx] at hk6
      have HNX := Lib.hid (fun (W : World) (h : Lies w W [stT (stOf sa la ta va oa L TB s), stT (stOf sb lb tb vb ob L TB s), rowsT rb s.M, refM qq M0, rowsT rc s.M, logT ua 1000 s.lg, logT ub 1000 s.lg]) => by have h9 := next_any _ n0 _ W (h.stR 0 rfl) HFa.out HN.out; rw [show nextP (L.getD s.at' default) (stOf sa la ta va oa L TB s).vars = x from hx.symm] at h9; exact h9)
      clear hx
      obtain ⟨xk, xt, xr, xy, xm, xto, xwr⟩ := x
      simp only [WantD.val] at HNX
      simp only at hk6
      go_wp2_with fail
      refine (HNX.out _ HL.out).mono ?_
      rintro e u1 ⟨rfl, hf⟩
      have HL1 := Lib.hid (HL.out.fr0 hf)
      clear hf
      go_wp2_with fail
      refine (HNX.out _ HL1.out).mono ?_
      rintro e u2 ⟨rfl, hf⟩
      have HL2 := Lib.hid (HL1.out.fr0 hf)
      clear hf HL1
      go_wp2_with fail
      have HL3 : Hid (Lies w ((u2.alloc (.cells #[.int .u8 xk, .int .i64 xt, .bool xr, .int .i64 xy, .int .u8 xm, .bool xto, .bool xwr] 47)).alloc (.cells #[.int .u8 xk, .int .i64 xt, .bool xr, .int .i64 xy, .int .u8 xm, .bool xto, .bool xwr] 47)) [stT (stOf sa la ta va oa L TB s), stT (stOf sb lb tb vb ob L TB s), rowsT rb s.M, refM qq M0, rowsT rc s.M, logT ua 1000 s.lg, logT ub 1000 s.lg, bkT u2.heap.size 47 (#[.int .u8 xk, .int .i64 xt, .bool xr, .int .i64 xy, .int .u8 xm, .bool xto, .bool xwr] : Array Value).toList, bkT (u2.heap.size + 1) 47 (#[.int .u8 xk, .int .i64 xt, .bool xr, .int .i64 xy, .int .u8 xm, .bool xto, .bool xwr] : Array Value).toList]) := by
        have h9 := (HL2.out.newBk 47 #[.int .u8 xk, .int .i64 xt, .bool xr, .int .i64 xy, .int .u8 xm, .bool xto, .bool xwr]).newBk 47 #[.int .u8 xk, .int .i64 xt, .bool xr, .int .i64 xy, .int .u8 xm, .bool xto, .bool xwr]
        rw [World.size_alloc] at h9
        exact Lib.hid h9
      clear HL2
      obtain ⟨s2, hs2⟩ : ∃ s2, s2 = (stepM L 1000 1 s).2.2 := ⟨_, rfl⟩
      have HR := Lib.hid (step_room HS.out HCO.out (most := 1000) (by omega) 1)
      rw [← HX.out] at HR
      have HS2 := Lib.hid (step_inv HS.out HCO.out (by omega) 1000 1)
      rw [← hs2] at HS2
      have HSE := Lib.hid hs2
      have HLO := Lib.hid (And.intro HS.out.lg HS.out.out)
      refine (step_any HL3.out 0 2 5 rfl rfl rfl (by decide) (by decide) (by decide) n0 HFa.out _ HN.out HS.out.good HS.out.cols 1 (by decide) (by have := HLO.out.1; omega) (by have := HLO.out.2; show s.out.length ≤ _; omega)).mono ?_
      rintro e u3 ⟨he, oa2, h⟩
      have he2 := he.trans (step_val HR.out.1 HR.out.2)
      simp only [WantD.val] at he2
      subst he2
      have HL4 : Hid (Lies w u3 [stT (stOf sa la ta va oa2 L TB s2), stT (stOf sb lb tb vb ob L TB s), rowsT rb s2.M, refM qq M0, rowsT rc s.M, logT ua 1000 s2.lg, logT ub 1000 s.lg, bkT u2.heap.size 47 (#[.int .u8 xk, .int .i64 xt, .bool xr, .int .i64 xy, .int .u8 xm, .bool xto, .bool xwr] : Array Value).toList, bkT (u2.heap.size + 1) 47 (#[.int .u8 xk, .int .i64 xt, .bool xr, .int .i64 xy, .int .u8 xm, .bool xto, .bool xwr] : Array Value).toList]) := by subst hs2; exact Lib.hid h
      clear h HL3 he
      go_wp2_with fail
      have HL5 : Hid (Lies w (u3.alloc (.cells #[.int .u8 xk, .int .i64 xt, .bool xr, .int .i64 xy, .int .u8 xm, .bool xto, .bool xwr] 47)) [stT (stOf sa la ta va oa2 L TB s2), stT (stOf sb lb tb vb ob L TB s), rowsT rb s2.M, refM qq M0, rowsT rc s.M, logT ua 1000 s2.lg, logT ub 1000 s.lg, bkT u2.heap.size 47 (#[.int .u8 xk, .int .i64 xt, .bool xr, .int .i64 xy, .int .u8 xm, .bool xto, .bool xwr] : Array Value).toList, bkT (u2.heap.size + 1) 47 (#[.int .u8 xk, .int .i64 xt, .bool xr, .int .i64 xy, .int .u8 xm, .bool xto, .bool xwr] : Array Value).toList, bkT u3.heap.size 47 (#[.int .u8 xk, .int .i64 xt, .bool xr, .int .i64 xy, .int .u8 xm, .bool xto, .bool xwr] : Array Value).toList]) := HL4.out.newBk 47 #[.int .u8 xk, .int .i64 xt, .bool xr, .int .i64 xy, .int .u8 xm, .bool xto, .bool xwr]
      clear HL4
      refine (step_any HL5.out 1 4 6 rfl rfl rfl (by decide) (by decide) (by decide) n0 HFb.out _ HN.out HS.out.good HS.out.cols 1 (by decide) (by have := HLO.out.1; omega) (by have := HLO.out.2; show s.out.length ≤ _; omega)).mono ?_
      rintro e u4 ⟨he, ob2, h⟩
      have he2 := he.trans (step_val HR.out.1 HR.out.2)
      simp only [WantD.val] at he2
      subst he2
      have HL6 : Hid (Lies w u4 [stT (stOf sa la ta va oa2 L TB s2), stT (stOf sb lb tb vb ob2 L TB s2), rowsT rb s2.M, refM qq M0, rowsT rc s2.M, logT ua 1000 s2.lg, logT ub 1000 s2.lg, bkT u2.heap.size 47 (#[.int .u8 xk, .int .i64 xt, .bool xr, .int .i64 xy, .int .u8 xm, .bool xto, .bool xwr] : Array Value).toList, bkT (u2.heap.size + 1) 47 (#[.int .u8 xk, .int .i64 xt, .bool xr, .int .i64 xy, .int .u8 xm, .bool xto, .bool xwr] : Array Value).toList, bkT u3.heap.size 47 (#[.int .u8 xk, .int .i64 xt, .bool xr, .int .i64 xy, .int .u8 xm, .bool xto, .bool xwr] : Array Value).toList]) := by subst hs2; exact Lib.hid h
      clear h HL5 hs2 he
      have HL7 : Hid (Lies w (u4.alloc (.cells #[.int .u8 xk, .int .i64 xt, .bool xr, .int .i64 xy, .int .u8 xm, .bool xto, .bool xwr] 47)) [stT (stOf sa la ta va oa2 L TB s2), stT (stOf sb lb tb vb ob2 L TB s2), rowsT rb s2.M, refM qq M0, rowsT rc s2.M, logT ua 1000 s2.lg, logT ub 1000 s2.lg, bkT u2.heap.size 47 (#[.int .u8 xk, .int .i64 xt, .bool xr, .int .i64 xy, .int .u8 xm, .bool xto, .bool xwr] : Array Value).toList, bkT (u2.heap.size + 1) 47 (#[.int .u8 xk, .int .i64 xt, .bool xr, .int .i64 xy, .int .u8 xm, .bool xto, .bool xwr] : Array Value).toList, bkT u3.heap.size 47 (#[.int .u8 xk, .int .i64 xt, .bool xr, .int .i64 xy, .int .u8 xm, .bool xto, .bool xwr] : Array Value).toList, bkT u4.heap.size 47 (#[.int .u8 xk, .int .i64 xt, .bool xr, .int .i64 xy, .int .u8 xm, .bool xto, .bool xwr] : Array Value).toList]) := HL6.out.newBk 47 #[.int .u8 xk, .int .i64 xt, .bool xr, .int .i64 xy, .int .u8 xm, .bool xto, .bool xwr]
      clear HL6
      have a0 := (HL7.out.bk 7 rfl).cell 0
      have a1 := (HL7.out.bk 7 rfl).cell 1
      have a2 := (HL7.out.bk 7 rfl).cell 2
      have a3 := (HL7.out.bk 7 rfl).cell 3
      have a4 := (HL7.out.bk 7 rfl).cell 4
      have a5 := (HL7.out.bk 7 rfl).cell 5
      have a6 := (HL7.out.bk 7 rfl).cell 6
      have b0 := (HL7.out.bk 8 rfl).cell 0
      have b1 := (HL7.out.bk 8 rfl).cell 1
      have b2 := (HL7.out.bk 8 rfl).cell 2
      have b3 := (HL7.out.bk 8 rfl).cell 3
      have b4 := (HL7.out.bk 8 rfl).cell 4
      have b5 := (HL7.out.bk 8 rfl).cell 5
      have b6 := (HL7.out.bk 8 rfl).cell 6
      have c0 := (HL7.out.bk 9 rfl).cell 0
      have c1 := (HL7.out.bk 9 rfl).cell 1
      have c2 := (HL7.out.bk 9 rfl).cell 2
      have c3 := (HL7.out.bk 9 rfl).cell 3
      have c4 := (HL7.out.bk 9 rfl).cell 4
      have c5 := (HL7.out.bk 9 rfl).cell 5
      have c6 := (HL7.out.bk 9 rfl).cell 6
      have d0 := (HL7.out.bk 10 rfl).cell 0
      have d1 := (HL7.out.bk 10 rfl).cell 1
      have d2 := (HL7.out.bk 10 rfl).cell 2
      have d3 := (HL7.out.bk 10 rfl).cell 3
      have d4 := (HL7.out.bk 10 rfl).cell 4
      have d5 := (HL7.out.bk 10 rfl).cell 5
      have d6 := (HL7.out.bk 10 rfl).cell 6
      simp only [List.getElem?_cons_zero, List.getElem?_cons_succ] at a0 a1 a2 a3 a4 a5 a6 b0 b1 b2 b3 b4 b5 b6 c0 c1 c2 c3 c4 c5 c6 d0 d1 d2 d3 d4 d5 d6
      go_wp2_with fail
      refine (at_any _ _ (HL7.out.stR 0 rfl)).mono ?_
      rintro e u5 ⟨rfl, rfl⟩
      go_wp2_with fail
      refine (at_any _ _ (HL7.out.stR 1 rfl)).mono ?_
      rintro e u5 ⟨rfl, rfl⟩
      clear a0 a1 a2 a3 a4 a5 a6 b0 b1 b2 b3 b4 b5 b6 c0 c1 c2 c3 c4 c5 c6 d0 d1 d2 d3 d4 d5 d6
      have hvl : s2.vars.length ≤ 1000000 := by have := HS2.out.len; omega
      have hol : s2.out.length ≤ 1000000 := by have := HS2.out.out; omega
      go_wp2_with fail
      refine (vars_any _ _ (HL7.out.stR 0 rfl) hvl).mono ?_
      rintro e u5 hsr
      obtain ⟨pa, ca, rfl, hia, hf⟩ := hsr.int
      have HIA := Lib.hid hia
      have HL8 := Lib.hid (HL7.out.fr0 hf)
      clear hsr hia hf HL7
      go_wp2_with fail
      refine (vars_any _ _ (HL8.out.stR 1 rfl) hvl).mono ?_
      rintro e u6 hsr
      obtain ⟨pb, cb, rfl, hib, hf⟩ := hsr.int
      have HIB := Lib.hid hib
      have HIA2 := Lib.hid (HIA.out.fr0 hf)
      have HL9 := Lib.hid (HL8.out.fr0 hf)
      clear hsr hib hf HL8 HIA
      go_wp2_with fail
      refine (sameInts_any _ _ _ _ _ HIA2.out HIB.out hvl hvl).mono ?_
      rintro e u7 ⟨he, hf⟩
      rw [decide_eq_true rfl] at he
      subst he
      have HL10 := Lib.hid (HL9.out.fr0 hf)
      clear hf HL9 HIA2 HIB
      go_wp2_with fail
      refine (out_any _ _ (HL10.out.stR 0 rfl) hol).mono ?_
      rintro e u8 hsr
      obtain ⟨pc, cc, rfl, hia, hf⟩ := hsr.int
      have HIA := Lib.hid hia
      have HL11 := Lib.hid (HL10.out.fr0 hf)
      clear hsr hia hf HL10
      go_wp2_with fail
      refine (out_any _ _ (HL11.out.stR 1 rfl) hol).mono ?_
      rintro e u9 hsr
      obtain ⟨pd, cd, rfl, hib, hf⟩ := hsr.int
      have HIB := Lib.hid hib
      have HIA2 := Lib.hid (HIA.out.fr0 hf)
      have HL12 := Lib.hid (HL11.out.fr0 hf)
      clear hsr hib hf HL11 HIA
      go_wp2_with fail
      refine (sameInts_any _ _ _ _ _ HIA2.out HIB.out hol hol).mono ?_
      rintro e u10 ⟨he, hf⟩
      rw [decide_eq_true rfl] at he
      subst he
      have HL13 := Lib.hid (HL12.out.fr0 hf)
      clear hf HL12 HIA2 HIB
      have c0 := (HL13.out.bk 9 rfl).cell 0
      simp only [List.getElem?_cons_zero] at c0
      rcases hk6 with rfl | hk5
      · go_wp2_with fail
        go_roundw
        case rel => exact ⟨i + 1, s2, oa2, ob2, by omega, by go_num, HS2.out, HL13.out.take 7⟩
        case measure => simp [intOf]; omega
      · obtain rfl : s2 = s := by rw [HSE.out, step_want (by rw [← HX.out]; show xk ≠ 1; omega)]
        clear HS2 HSE HR
        rcases (show (xk = 2 ∨ xk = 3 ∨ xk = 4) ∨ xk = 5 ∨ xk = 6 by omega) with hk | hk
        · have HG : Hid (goes (nextP (L.getD s2.at' default) s2.vars).kind = true) := Lib.hid (by rw [← HX.out]; rcases hk with rfl | rfl | rfl <;> rfl)
          have HS3 := Lib.hid (HS.out.goes HCO.out (by rw [← HX.out]; exact hk))
          have hn1 : (xk != 1) = true := by rw [bne_iff_ne]; omega
          have hn4 : ¬ 4 < xk := by omega
          clear hk hk5
          go_wp2_with fail
          refine (go_yes HL13.out 0 rfl (stOf_F HS.out HCO.out HFW.out.2.2.2.2 hnvn (by omega)) HN.out HG.out).mono ?_
          rintro e u11 ⟨rfl, h⟩
          have HL14 := Lib.hid h
          clear h HL13
          go_wp2_with fail
          refine (go_yes HL14.out 1 rfl (stOf_F HS.out HCO.out HFW.out.2.2.2.2 hnvn (by omega)) HN.out HG.out).mono ?_
          rintro e u12 ⟨rfl, h⟩
          have HL15 := Lib.hid h
          have c0 := (h.bk 9 rfl).cell 0
          simp only [List.getElem?_cons_zero] at c0
          clear h HL14
          go_wp2_with fail
          go_roundw
          case rel => exact ⟨i + 1, _, oa2, ob2, by omega, by go_num, HS3.out.mono (by omega) (by omega), HL15.out.take 7⟩
          case measure => simp [intOf]; omega
        · have HG : Hid (goes (nextP (L.getD s2.at' default) s2.vars).kind = false) := Lib.hid (by rw [← HX.out]; rcases hk with rfl | rfl <;> rfl)
          have hn1 : (xk != 1) = true := by rw [bne_iff_ne]; omega
          have hn4 : 4 < xk := by omega
          clear hk hk5
          go_wp2_with fail
          refine (go_no HL13.out 0 rfl (stOf_F HS.out HCO.out HFW.out.2.2.2.2 hnvn (by omega)) HN.out HG.out).mono ?_
          rintro e u11 ⟨rfl, h⟩
          have HL14 := Lib.hid h
          clear h HL13
          go_wp2_with fail
          refine (go_no HL14.out 1 rfl (stOf_F HS.out HCO.out HFW.out.2.2.2.2 hnvn (by omega)) HN.out HG.out).mono ?_
          rintro e u12 ⟨rfl, h⟩
          have HL15 := Lib.hid h
          have c0 := (h.bk 9 rfl).cell 0
          simp only [List.getElem?_cons_zero] at c0
          clear h HL14
          go_wp2_with fail
          refine (st_same HL15.out 2 4 rfl rfl HS.out.good HS.out.good).mono ?_
          rintro e wa ⟨he, h⟩
          rw [decide_eq_true rfl] at he
          subst he
          have HLa := Lib.hid h
          clear h
          go_wp2_with fail
          refine (st_used HLa.out 5 rfl).mono ?_
          rintro e wb ⟨rfl, h⟩
          have HLb := Lib.hid h
          clear h HLa
          go_wp2_with fail
          refine (st_used HLb.out 6 rfl).mono ?_
          rintro e wd ⟨rfl, h⟩
          have HLd := Lib.hid h
          clear h HLb
          go_wp2_with fail
          refine (works_any _).mono ?_
          rintro e w9 ⟨rfl, hf⟩
          have HF := Lib.hid (HLd.out.fr.trans0 hf)
          clear hf
          go_wp2_with fail
          go_ret
          exact ⟨rfl, HF.out⟩
    · obtain rfl : i = sn := by omega
      go_wp2_with fail
      refine (st_same HL.out 2 4 rfl rfl HS.out.good HS.out.good).mono ?_
      rintro e wa ⟨he, h⟩
      rw [decide_eq_true rfl] at he
      subst he
      have HLa := Lib.hid h
      clear h
      go_wp2_with fail
      refine (st_used HLa.out 5 rfl).mono ?_
      rintro e wb ⟨rfl, h⟩
      have HLb := Lib.hid h
      clear h HLa
      go_wp2_with fail
      refine (st_used HLb.out 6 rfl).mono ?_
      rintro e wd ⟨rfl, h⟩
      have HLd := Lib.hid h
      clear h HLb
      go_wp2_with fail
      refine (works_any _).mono ?_
      rintro e w9 ⟨rfl, hf⟩
      have HF := Lib.hid (HLd.out.fr.trans0 hf)
      clear hf
      go_wp2_with fail
      go_ret
      exact ⟨rfl, HF.out⟩
theorem looks_int (m n : Int) (h : CodeAt w lv L) (hcap : CapOk lv) (ht : IntsAt w tv TB) (ha : IntsAt w av args) (hm : (Lit.int .u8 m).wf = true) (hn : (Lit.int .u8 n).wf = true) :
    Calls Try.prog 4 #[lv, tv, .int .i64 nv, av, .int .u8 m, .int .u8 n] w fun e w' => e = .returned (.bool true) ∧ Fr w w' Nil := by
  have h1 := u8_range hm
  have h2 := u8_range hn
  obtain ⟨mm, rfl⟩ : ∃ mm : Nat, m = (mm : Int) := ⟨m.toNat, by omega⟩
  obtain ⟨sn, rfl⟩ : ∃ sn : Nat, n = (sn : Int) := ⟨n.toNat, by omega⟩
  exact looks_any lv tv av L TB args nv mm sn w h hcap ht ha (by omega) (by omega)
end
end Go.Proofs.Ytgpekgnhbccnoaa
