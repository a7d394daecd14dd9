/-
 Walk of RunPlays: it answers true.
 No condition.
 RunPlays at any byte.
 No condition.
-/
import Derived.Test.YtgpekgnhbccnoaaGreatPkY36
import Derived.Test.YtgpekgnhbccnoaaGreatPkY42
import Derived.Test.YtgpekgnhbccnoaaGreatPkY34
import Derived.Test.YtgpekgnhbccnoaaGreatPkY43
namespace Go.Proofs.YtgpekgnhbccnoaaGreat
open Go Go.RowKit
attribute [local go_sem ↓] Go.wp_at_zero Go.wp_at_succ

abbrev dOf (sd : Nat) (ld vd od : Value) (L : List InstrD) (s : MachD) : DStV := ⟨sd, ld, vd, od, L, s.at', s.vars, s.out⟩
theorem dOf_F {sd : Nat} {ld vd od : Value} {L : List InstrD} {TB : List Int} {s : MachD} {nv N K : Nat} (h : SInv TB nv L.length N K s) (hc : COk TB nv L) (hf : FewC L) (hnv : nv ≤ 100000) : DStF (dOf sd ld vd od L s) TB nv :=
 ⟨hf, h.len, hnv, h.at', hc⟩
theorem step_err (L : List InstrD) (most who : Int) (s : MachD) : (stepM L most who s).2.1 = 0 ∨ (stepM L most who s).2.1 = 2 ∨ (stepM L most who s).2.1 = 3 := by
 unfold stepM
 dsimp only
 split
 ·exact .inl rfl
 ·split
  ·split
   ·exact .inl rfl
   ·rename_i h
    exact .inr (noteE_ne h)
  ·exact .inl rfl
theorem step_ok {L : List InstrD} {most who : Int} {s : MachD} (h : (stepM L most who s).2.1 = 0) : (stepM L most who s).1 = nextP (L.getD s.at' default) s.vars := by
 revert h
 unfold stepM
 dsimp only
 split
 ·exact fun _ => rfl
 ·split
  ·split
   ·exact fun _ => rfl
   ·rename_i h1
    exact fun h => absurd h h1
  ·exact fun _ => rfl
section
variable {w0 W : World} {l : List Thing}
theorem Lies.dlogCell {b : Nat} {most : Int} {lg : List (Int × Ent)} (h : Lies w0 W l) (i : Nat) (hi : l[i]? = some (dlogT b most lg)) : ∃ a c, W.cell? ⟨b, 1, none⟩ = some (.slice a lg.length c) := by
 obtain ⟨S, ⟨lv, g, a1, rfl, _⟩, _⟩ := h.get i _ hi
 have h1 := a1.root.cell 1
 obtain ⟨a, c, rfl⟩ := (SlAt.of_own a1.own).1.shape
 rw [dmods_len]
 exact ⟨a, c, h1⟩
variable {sd : Nat} {ld vd od : Value} {L : List InstrD} {TB : List Int} {s : MachD} {nv : Nat} {n : InstrD}
theorem dgo_yes (h : Lies w0 W l) (i : Nat) (hi : l[i]? = some (dstT (dOf sd ld vd od L s))) (hf : DStF (dOf sd ld vd od L s) TB nv) (hn : L[s.at']? = some n) (hk : goes (nextP n s.vars).kind = true) :
  Calls Tryz.prog 26 #[.pointer (some ⟨sd, 0, none⟩)] W fun e W' => e = .returned (.bool true) ∧ Lies w0 W' (l.set i (dstT (dOf sd ld vd od L { s with at' := s.at' + 1 }))) := by
 have h9 := dgo_any h i hi hf hn
 simp only [hk, if_true] at h9
 exact h9
theorem dgo_no (h : Lies w0 W l) (i : Nat) (hi : l[i]? = some (dstT (dOf sd ld vd od L s))) (hf : DStF (dOf sd ld vd od L s) TB nv) (hn : L[s.at']? = some n) (hk : goes (nextP n s.vars).kind = false) :
  Calls Tryz.prog 26 #[.pointer (some ⟨sd, 0, none⟩)] W fun e W' => e = .returned (.bool false) ∧ Lies w0 W' l := by
 have h9 := dgo_any h i hi hf hn
 simp only [hk, Bool.false_eq_true, if_false] at h9
 have hself : l.set i (dstT (dOf sd ld vd od L s)) = l := by
  have hlt := (List.getElem?_eq_some_iff.1 hi).1
  rw [← (List.getElem?_eq_some_iff.1 hi).2]
  exact List.set_getElem_self hlt
 rw [hself] at h9
 exact h9
end
section
variable (lv tv av : Value) (L : List InstrD) (TB args : List Int) (nv room st : Int) (mm : Nat) (w : World)
set_option maxRecDepth 100000 in
set_option maxHeartbeats 32000000 in
theorem plays_any (h : CodeAt w lv L) (hcap : CapOk lv) (hop : ∀ n ∈ L, 0 ≤ n.op ∧ n.op < 256) (ht : IntsAt w tv TB) (ha : IntsAt w av args) (hmm : mm < 256) :
  Calls Tryz.prog 3 #[lv, tv, .int .i64 nv, av, .int .u8 mm, .int .i64 room, .int .u64 st] w fun e w' => e = .returned (.bool true) ∧ Fr w w' Nil := by
 obtain ⟨l0, lc, rfl⟩ := h.shape
 obtain ⟨t0, tc, rfl⟩ := ht.shape
 obtain ⟨a0, ac, rfl⟩ := ha.shape
 have H := Lib.hid h
 have HT := Lib.hid ht
 have HA := Lib.hid ha
 have HCAP := Lib.hid hcap
 have HOP := Lib.hid hop
 clear h ht ha hcap hop
 go_enter Tryz.func3, Tryz.ntmps3
 go_wp2_with fail
 refine (few_any _ _ _ L TB args nv _ H.out HT.out HA.out).mono ?_
 rintro e w1 ⟨b, rfl, hfew, rfl⟩
 cases b
 ·clear hfew
  go_wp2_with fail
  refine (works_any _).mono ?_
  rintro e w9 ⟨rfl, hf⟩
  have HF := Lib.hid hf
  clear hf
  go_wp2_with fail
  go_ret
  exact ⟨rfl, HF.out⟩
 have HFW := Lib.hid (hfew rfl)
 have hTB20 := (hfew rfl).2.1
 have hnv40 := (hfew rfl).2.2.1
 have hag40 := (hfew rfl).2.2.2.1
 clear hfew
 go_wp2_with fail
 refine (rnew_st _ _ _ TB args nv L w H.out HCAP.out HT.out HA.out HFW.out.2.2.2.2 (by omega) (by omega)).mono ?_
 rintro e w1 h1
 rcases h1 with ⟨hright, hargs, qa, Ca, rfl, hsta, hqa, e1, e2, e3, e4, e5, hf1⟩ | ⟨hno, rfl, hf1⟩
 rotate_left
 ·have HNO := Lib.hid hno
  have HL1 := Lib.hid (Lies.nil hf1)
  clear hno hf1
  go_wp2_with fail
  refine (plain_any _ L w1 (H.out.fr0 HL1.out.fr) HFW.out.2.2.2.2).mono ?_
  rintro e w2 ⟨pa, pc, rfl, ⟨Sp, hp1, hp2⟩, hfp⟩
  have HL2 := Lib.hid (HL1.out.add (readT (fun w => CodeAt w (.slice pa L.length pc) L)) (S := Sp) ⟨hp1, fun k hk => (hp2 k hk).2.1⟩ (fun k hk => (hp2 k hk).1) hfp)
  clear hp1 hp2 hfp HL1
  go_wp2_with fail
  refine (dnew_st nv HL2.out HOP.out HT.out HA.out HFW.out.2.2.2.2 (by omega) (by omega) (by omega)).mono ?_
  rintro e w3 hd
  rcases hd with ⟨hr2, ha2, _⟩ | ⟨_, rfl, h⟩
  ·exact absurd ⟨hr2, ha2⟩ HNO.out
  have HL3 := Lib.hid h
  clear h HL2
  go_wp2_with fail
  refine (filled_any HL3.out _ TB HT.out (by omega) mm (mm % 5) (by omega) hmm).mono ?_
  rintro e w4 h4
  rcases h4 with ⟨_, rb, qq, rfl, h4⟩ | ⟨_, rfl, h4⟩
  all_goals
   have HF4 := Lib.hid h4.fr
   clear h4 HL3
   go_wp2_with fail
   refine (works_any _).mono ?_
   rintro e w9 ⟨rfl, hf⟩
   have HF := Lib.hid (HF4.out.trans0 hf)
   clear hf
   go_wp2_with fail
   go_ret
   exact ⟨rfl, HF.out⟩
 obtain ⟨sa, la, ta, va, oa0, L', TB', at', vars, out⟩ := qa
 simp only at e1 e2 e3 e4 e5
 subst e1 e2 e3 e4 e5
 have hnv0 := hright.pos
 have HRT := Lib.hid hright
 have HAR := Lib.hid hargs
 have HL1 := Lib.hid (new_lies (Lies.nil (Fr.refl w Nil)) hsta hqa hf1)
 clear hright hargs hsta hqa hf1
 go_wp2_with fail
 refine (plain_any _ L' w1 (H.out.fr0 HL1.out.fr) HFW.out.2.2.2.2).mono ?_
 rintro e w2 ⟨pa, pc, rfl, ⟨Sp, hp1, hp2⟩, hfp⟩
 have HL2 := Lib.hid (HL1.out.add (readT (fun w => CodeAt w (.slice pa L'.length pc) L')) (S := Sp) ⟨hp1, fun k hk => (hp2 k hk).2.1⟩ (fun k hk => (hp2 k hk).1) hfp)
 clear hp1 hp2 hfp HL1
 go_wp2_with fail
 refine (dnew_st nv HL2.out HOP.out HT.out HA.out HFW.out.2.2.2.2 (by omega) (by omega) (by omega)).mono ?_
 rintro e w3 hd
 rcases hd with ⟨_, _, qd, rfl, e1, e2, e3, e4, h⟩ | ⟨hno, _⟩
 rotate_left
 ·exact absurd ⟨HRT.out, HAR.out⟩ hno
 obtain ⟨sd, ld, vd, od0, L, at', vars, out⟩ := qd
 simp only at e1 e2 e3 e4 h
 subst e1 e2 e3 e4
 have HL3 := Lib.hid h
 clear h HL2
 go_wp2_with fail
 refine (filled_any HL3.out _ TB' HT.out (by omega) mm (mm % 5) (by omega) hmm).mono ?_
 rintro e w4 h4
 rcases h4 with ⟨hcols, rb, qb, rfl, h4⟩ | ⟨_, rfl, h4⟩
 rotate_left
 ·have HF4 := Lib.hid h4.fr
  clear h4 HL3
  go_wp2_with fail
  refine (works_any _).mono ?_
  rintro e w9 ⟨rfl, hf⟩
  have HF := Lib.hid (HF4.out.trans0 hf)
  clear hf
  go_wp2_with fail
  go_ret
  exact ⟨rfl, HF.out⟩
 obtain ⟨TB, rfl⟩ : ∃ TB : List Int, TB = TB' := ⟨_, rfl⟩
 have HFO := Lib.hid (filled_ok (m := mm % 5) hcols (by omega))
 have HIV := Lib.hid (mach0_inv HRT.out HAR.out HFO.out)
 have HCO := Lib.hid HRT.out.ok
 have hnvn : nv.toNat ≤ 100000 := by omega
 generalize filledM TB (mm % 5) = M0 at *
 obtain ⟨s0, hs0⟩ : ∃ s0, s0 = mach0 nv.toNat args M0 := ⟨_, rfl⟩
 have HL4 : Hid (Lies w w4 [stT (stOf sa la ta va oa0 L TB s0), dstT (dOf sd ld vd od0 L s0), rowsT rb M0, refM qb M0]) := by subst hs0; exact Lib.hid h4
 rw [← hs0] at HIV
 clear h4 HL3 hcols
 go_wp2_with fail
 refine (st_new HL4.out room).mono ?_
 rintro e w5 ⟨ua, rfl, h⟩
 have HL5 := Lib.hid h
 clear h HL4
 go_wp2_with fail
 refine (st_dnew HL5.out room).mono ?_
 rintro e w6 ⟨ud, rfl, h⟩
 have HL6 : Hid (Lies w w6 [stT (stOf sa la ta va oa0 L TB s0), dstT (dOf sd ld vd od0 L s0), rowsT rb s0.M, refM qb s0.M, logT ua (max 0 room) s0.lg, dlogT ud (max 0 room) s0.lg]) := by subst hs0; exact Lib.hid h
 clear h HL5 hs0
 obtain ⟨n0, hn0⟩ : ∃ n0, n0 = nv.toNat := ⟨_, rfl⟩
 rw [← hn0] at HIV HCO hnvn
 have hn40 : n0 ≤ 40 := by omega
 clear hn0
 go_wp2_with fail
 go_loopw [24] (fun vi wr => ∃ (t : Nat) (s : MachD) (oa od : Value), t ≤ 150 ∧ vi = .int .i64 t ∧ SInv TB n0 L.length (256 + t) t s ∧ Lies w wr [stT (stOf sa la ta va oa L TB s), dstT (dOf sd ld vd od L s), rowsT rb s.M, refM qb s.M, logT ua (max 0 room) s.lg, dlogT ud (max 0 room) s.lg]) (fun vi _ => 150 - (intOf vi).toNat)
 case atStart => exact ⟨0, s0, oa0, od0, by omega, rfl, HIV.out, HL6.out⟩
 case round =>
  clear HL6 HIV
  obtain ⟨t, s, oa, od, ht, rfl, hinv, h⟩ := hrel
  have HS := Lib.hid hinv
  have HL := Lib.hid h
  obtain ⟨wo, rfl⟩ : ∃ wo : World, wo = wr := ⟨_, rfl⟩
  clear hinv h
  by_cases hlt : t < 150
  ·have hii : (t : Int) < 150 := by omega
   have HN := Lib.hid (at_get HS.out.at')
   have HFa := Lib.hid (stOf_F (sb := sa) (lv := la) (tv := ta) (vv := va) (ov := oa) HS.out HCO.out HFW.out.2.2.2.2 hnvn (by omega))
   have HFd := Lib.hid (dOf_F (sd := sd) (ld := ld) (vd := vd) (od := od) HS.out HCO.out HFW.out.2.2.2.2 hnvn)
   obtain ⟨x, hx⟩ : ∃ x, x = nextP (L.getD s.at' default) s.vars := ⟨_, rfl⟩
   have HX := Lib.hid hx
   have hk6 := nextP_kinds (n := L.getD s.at' default) s.vars
   rw [← hx] at hk6
   have HNX := Lib.hid (fun (W : World) (hf : Fr wo W Nil) => by have h9 := next_any _ n0 _ W ((HL.out.fr0 hf).stR 0 rfl) HFa.out HN.out; rw [show nextP (L.getD s.at' default) (stOf sa la ta va oa L TB s).vars = x from hx.symm] at h9; exact h9)
   have HND := Lib.hid (fun (W : World) (hf : Fr wo W Nil) => by have h9 := dnext_any _ TB n0 _ W ((HL.out.fr0 hf).dstR 1 rfl) HFd.out HN.out; rw [show nextP (L.getD s.at' default) (dOf sd ld vd od L s).vars = x from hx.symm] at h9; exact h9)
   clear hx
   obtain ⟨xk, xt, xr, xy, xm, xto, xwr⟩ := x
   simp only [WantD.val] at HNX HND
   simp only at hk6
   have hvl : s.vars.length ≤ 1000000 := by have := HS.out.len; omega
   have hol : s.out.length ≤ 1000000 := by have := HS.out.out; omega
   have hbx := (HL.out.dst 1 rfl).1
   have hiv := (HL.out.dstR 1 rfl).vars
   have hio := (HL.out.dstR 1 rfl).out
   have hd1 := hbx.cell 1
   have hd2 := hbx.cell 2
   have hd3 := hbx.cell 3
   simp only [DStV.cs, List.getElem?_cons_zero, List.getElem?_cons_succ] at hd1 hd2 hd3
   obtain ⟨va2, vc2, hvd⟩ := hiv.shape
   obtain ⟨oa3, oc3, hod⟩ := hio.shape
   simp only at hvd hod hiv hio
   rw [hvd] at hd2 hiv
   rw [hod] at hd3 hio
   have kd1 := KeptF.cell hd1
   have kd2 := KeptF.cell hd2
   have kd3 := KeptF.cell hd3
   have HIV := Lib.hid hiv
   have HIO := Lib.hid hio
   clear hbx hiv hio hd1 hd2 hd3 hvd hod
   go_upto_region 14 with (fail)
   go_cut [130] from 92 to 240 (fun v130 wx => v130 = .bool false ∧ Fr wo wx Nil)
   case first =>
    as_aux_lemma =>
     refine wp_region_sink 34 (KeptF wo) (by kernel_rfl) ?_
     have hS0 : KeptF wo wo.drew := KeptF.start _
     refine tk 0 hS0 ?_
     try simp only [Act.put, sA, sB, sC]
     refine tk 2 hS0 ?_
     try simp only [Act.put, sA, sB, sC]
     refine on1 1 fun K hK => ?_
     go_simp
     refine (HNX.out _ (KeptF.fr hS0)).mono ?_
     rintro e u1 ⟨rfl, hf1⟩
     have hS1 := KeptF.next hS0 hf1
     refine hK.out _ _ hS1 ?_
     clear hK K
     try simp only [Act.put, sA, sB, sC]
     refine on1 3 fun K hK => ?_
     go_simp
     refine (HND.out _ (KeptF.fr hS1)).mono ?_
     rintro e u2 ⟨rfl, hf2⟩
     have hS2 := KeptF.next hS1 hf2
     refine hK.out _ _ hS2 ?_
     clear hK K
     try simp only [Act.put, sA, sB, sC]
     refine on1 4 fun K hK => ?_
     go_simp
     refine (want_any ⟨xk, xt, xr, xy, xm, xto, xwr⟩ _).mono ?_
     rintro e u3 ⟨rfl, hf3⟩
     have hS3 := KeptF.next hS2 hf3
     refine hK.out _ _ hS3 ?_
     clear hK K
     try simp only [Act.put, sA, sB, sC]
     refine tk 5 hS3 ?_
     try simp only [Act.put, sA, sB, sC]
     refine tk 6 hS3 ?_
     try simp only [Act.put, sA, sB, sC]
     refine tk 7 hS3 ?_
     try simp only [Act.put, sA, sB, sC]
     refine tk 9 hS3 ?_
     try simp only [Act.put, sA, sB, sC]
     refine tk 10 hS3 ?_
     try simp only [Act.put, sA, sB, sC]
     refine tk 11 hS3 ?_
     try simp only [Act.put, sA, sB, sC]
     refine tk 12 hS3 ?_ (hy := by intro _ w; have ckd1 := kd1 _ w; go_simp <;> with_reducible rfl)
     try simp only [Act.put, sA, sB, sC]
     refine on1 8 fun K hK => ?_
     go_simp
     refine (at_any _ _ ((HL.out.fr0 (KeptF.fr hS3)).stR 0 rfl)).mono ?_
     rintro e u4 ⟨rfl, rfl⟩
     refine hK.out _ _ hS3 ?_
     clear hK K
     refine tk 13 hS3 ?_
     try simp only [Act.put, sA, sB, sC]
     refine tk 14 hS3 ?_
     try simp only [Act.put, sA, sB, sC]
     refine tk 15 hS3 ?_
     try simp only [Act.put, sA, sB, sC]
     refine tk 16 hS3 ?_
     try simp only [Act.put, sA, sB, sC]
     refine tk 18 hS3 ?_
     try simp only [Act.put, sA, sB, sC]
     refine tk 19 hS3 ?_
     try simp only [Act.put, sA, sB, sC]
     refine tk 20 hS3 ?_
     try simp only [Act.put, sA, sB, sC]
     refine tk 21 hS3 ?_ (hy := by intro _ w; have ckd2 := kd2 _ w; go_simp <;> with_reducible rfl)
     try simp only [Act.put, sA, sB, sC]
     refine on1 17 fun K hK => ?_
     go_simp
     refine (vars_any _ _ ((HL.out.fr0 (KeptF.fr hS3)).stR 0 rfl) hvl).mono ?_
     rintro e u5 hsr
     obtain ⟨pa2, ca2, rfl, hia, hf5⟩ := hsr.int
     have hS5 := KeptF.next hS3 hf5
     refine hK.out _ _ hS5 ?_
     clear hK K
     refine on1 22 fun K hK => ?_
     go_simp
     refine (sameInts_any _ _ s.vars s.vars _ hia (HIV.out.fr0 (KeptF.fr hS5)) hvl hvl).mono ?_
     rintro e u6 ⟨he, hf6⟩
     rw [decide_eq_true rfl] at he
     subst he
     have hS6 := KeptF.next hS5 hf6
     refine hK.out _ _ hS6 ?_
     clear hK K
     try simp only [Act.put, sA, sB, sC]
     refine tk 23 hS6 ?_
     try simp only [Act.put, sA, sB, sC]
     refine tk 24 hS6 ?_
     try simp only [Act.put, sA, sB, sC]
     refine tk 25 hS6 ?_
     try simp only [Act.put, sA, sB, sC]
     refine tk 26 hS6 ?_
     try simp only [Act.put, sA, sB, sC]
     refine tk 28 hS6 ?_
     try simp only [Act.put, sA, sB, sC]
     refine tk 29 hS6 ?_
     try simp only [Act.put, sA, sB, sC]
     refine tk 30 hS6 ?_
     try simp only [Act.put, sA, sB, sC]
     refine tk 31 hS6 ?_ (hy := by intro _ w; have ckd3 := kd3 _ w; go_simp <;> with_reducible rfl)
     try simp only [Act.put, sA, sB, sC]
     refine on1 27 fun K hK => ?_
     go_simp
     refine (out_any _ _ ((HL.out.fr0 (KeptF.fr hS6)).stR 0 rfl) hol).mono ?_
     rintro e u7 hsr2
     obtain ⟨pa3, ca3, rfl, hib, hf7⟩ := hsr2.int
     have hS7 := KeptF.next hS6 hf7
     refine hK.out _ _ hS7 ?_
     clear hK K
     refine on1 32 fun K hK => ?_
     go_simp
     refine (sameInts_any _ _ s.out s.out _ hib (HIO.out.fr0 (KeptF.fr hS7)) hol hol).mono ?_
     rintro e u8 ⟨he, hf8⟩
     rw [decide_eq_true rfl] at he
     subst he
     have hS8 := KeptF.next hS7 hf8
     refine hK.out _ _ hS8 ?_
     clear hK K
     try simp only [Act.put, sA, sB, sC]
     refine tk 33 hS8 ?_
     try simp only [Act.put, sA, sB, sC]
     refine wpAnyS_last (i := 34) rfl (by kernel_rfl) (by decide) (by kernel_rfl) (by rfl) fun K hK => ?_
     go_simp
     refine hK.out _ _ ?_
     have HF8 := Lib.hid (KeptF.fr hS8)
     clear hK K hS0 hS1 hS2 hS3 hS5 hS6 hS7 hS8 hf1 hf2 hf3 hf5 hf6 hf7 hf8 hia hib kd1 kd2 kd3
     go_wp2_with fail
     go_meet
     case rel => exact ⟨rfl, HF8.out⟩
   case rest =>
    obtain ⟨rfl, hf⟩ := hcut
    have HL1 := Lib.hid (HL.out.fr0 hf)
    clear hf HL HNX HND kd1 kd2 kd3 HIV HIO
    go_wp2_with fail
    refine (step_any HL1.out 0 2 4 rfl rfl rfl (by decide) (by decide) (by decide) n0 HFa.out _ HN.out HS.out.good HS.out.cols 3 (by decide) (by have := HS.out.lg; omega) (by have := HS.out.out; show s.out.length ≤ _; omega)).mono ?_
    rintro e u3 ⟨he, oa2, h⟩
    obtain ⟨r, hr⟩ : ∃ r, r = stepM L (max 0 room) 3 s := ⟨_, rfl⟩
    have he2 : e = .returned (.tuple #[r.1.val, .int .i64 r.2.1]) := by rw [hr]; exact he
    have h2 : Lies w u3 [stT (stOf sa la ta va oa2 L TB r.2.2), dstT (dOf sd ld vd od L s), rowsT rb r.2.2.M, refM qb s.M, logT ua (max 0 room) r.2.2.lg, dlogT ud (max 0 room) s.lg] := by rw [hr]; exact h
    have HS2 := Lib.hid (step_inv HS.out HCO.out (by omega) (max 0 room) 3)
    rw [← hr] at HS2
    have hec := step_err L (max 0 room) 3 s
    rw [← hr] at hec
    have HOKX : Hid (r.2.1 = 0 → r.1 = ⟨xk, xt, xr, xy, xm, xto, xwr⟩) := Lib.hid fun h9 => by rw [hr] at h9 ⊢; rw [step_ok h9, ← HX.out]
    have HWN : Hid (r.1.kind ≠ 1 → r.2.1 = 0 → r.2.2 = s) := Lib.hid fun h9 h8 => by
     rw [hr] at h9 h8 ⊢
     rw [step_ok h8] at h9
     rw [step_want h9]
    have HRE := Lib.hid hr
    clear h he hr
    obtain ⟨y, ec, s2⟩ := r
    obtain ⟨yk, yt, yr, yy, ym, yto, ywr⟩ := y
    simp only [WantD.val] at he2 h2 HS2 hec HOKX HWN
    subst he2
    have HL2 := Lib.hid h2
    clear h2 HL1
    go_wp2_with fail
    have HL3 : Hid (Lies w (u3.alloc (.cells #[.int .u8 yk, .int .i64 yt, .bool yr, .int .i64 yy, .int .u8 ym, .bool yto, .bool ywr] 50)) [stT (stOf sa la ta va oa2 L TB s2), dstT (dOf sd ld vd od L s), rowsT rb s2.M, refM qb s.M, logT ua (max 0 room) s2.lg, dlogT ud (max 0 room) s.lg, bkT u3.heap.size 50 (#[.int .u8 yk, .int .i64 yt, .bool yr, .int .i64 yy, .int .u8 ym, .bool yto, .bool ywr] : Array Value).toList]) := Lib.hid (HL2.out.newBk 50 #[.int .u8 yk, .int .i64 yt, .bool yr, .int .i64 yy, .int .u8 ym, .bool yto, .bool ywr])
    clear HL2
    refine (dstep_any HL3.out 1 3 5 rfl rfl rfl (by decide) (by decide) (by decide) TB n0 HFd.out _ HN.out HS.out.good HS.out.few (by omega) HS.out.cols 3 (by have := HS.out.lg; omega) (by have := HS.out.out; show s.out.length ≤ _; omega) (by have := HFW.out.2.2.2.2.1; exact this)).mono ?_
    rintro e u4 ⟨he, od2, h⟩
    have he2 : e = .returned (.tuple #[(⟨yk, yt, yr, yy, ym, yto, ywr⟩ : WantD).val, .int .i64 (errD ec)]) := by rw [he]; exact congrArg (fun r : WantD × Int × MachD => Ending.returned (.tuple #[r.1.val, .int .i64 (errD r.2.1)])) HRE.out.symm
    have h2 : Lies w u4 [stT (stOf sa la ta va oa2 L TB s2), dstT (dOf sd ld vd od2 L s2), rowsT rb s2.M, refM qb s2.M, logT ua (max 0 room) s2.lg, dlogT ud (max 0 room) s2.lg, bkT u3.heap.size 50 (#[.int .u8 yk, .int .i64 yt, .bool yr, .int .i64 yy, .int .u8 ym, .bool yto, .bool ywr] : Array Value).toList] := by
     have h9 := h
     have e9 : stepM L (max 0 room) 3 s = (⟨yk, yt, yr, yy, ym, yto, ywr⟩, ec, s2) := HRE.out.symm
     rw [show stepM (dOf sd ld vd od L s).L (max 0 room) 3 ⟨(dOf sd ld vd od L s).at', (dOf sd ld vd od L s).vars, (dOf sd ld vd od L s).out, s.M, s.lg⟩ = (⟨yk, yt, yr, yy, ym, yto, ywr⟩, ec, s2) from e9] at h9
     exact h9
    obtain ⟨d, hd⟩ : ∃ d, d = errD ec := ⟨_, rfl⟩
    rw [← hd] at he2
    have HED : Hid ((ec = 0 ∧ d = 0) ∨ (ec = 2 ∧ d = 1) ∨ (ec = 3 ∧ d = 2)) := Lib.hid (by rw [hd]; rcases hec with e | e | e <;> rw [e] <;> decide)
    simp only [WantD.val] at he2
    subst he2
    have HL4 := Lib.hid h2
    clear h he h2 HL3 HRE hd hec
    go_upto_region 18 with (fail)
    have HL5 : Hid (Lies w (u4.alloc (.cells #[.int .u8 yk, .int .i64 yt, .bool yr, .int .i64 yy, .int .u8 ym, .bool yto, .bool ywr] 52)) [stT (stOf sa la ta va oa2 L TB s2), dstT (dOf sd ld vd od2 L s2), rowsT rb s2.M, refM qb s2.M, logT ua (max 0 room) s2.lg, dlogT ud (max 0 room) s2.lg, bkT u3.heap.size 50 (#[.int .u8 yk, .int .i64 yt, .bool yr, .int .i64 yy, .int .u8 ym, .bool yto, .bool ywr] : Array Value).toList, bkT u4.heap.size 52 (#[.int .u8 yk, .int .i64 yt, .bool yr, .int .i64 yy, .int .u8 ym, .bool yto, .bool ywr] : Array Value).toList]) := Lib.hid (HL4.out.newBk 52 #[.int .u8 yk, .int .i64 yt, .bool yr, .int .i64 yy, .int .u8 ym, .bool yto, .bool ywr])
    obtain ⟨w8, hw8⟩ : ∃ w8, w8 = u4.alloc (.cells #[.int .u8 yk, .int .i64 yt, .bool yr, .int .i64 yy, .int .u8 ym, .bool yto, .bool ywr] 52) := ⟨_, rfl⟩
    rw [← hw8] at HL5 ⊢
    clear hw8 HL4
    have HFE : Hid (Few 1000 s2.M) := Lib.hid (fun T hT => Nat.le_trans (HS2.out.few T hT) (by omega))
    obtain ⟨ga, gc, hgl⟩ := HL5.out.dlogCell 5 rfl
    have kl := KeptF.cell hgl
    have a0 := KeptF.cell (w0 := w8) (show w8.cell? ⟨u3.heap.size, 0, none⟩ = some _ from (HL5.out.bk 6 rfl).cell 0)
    have a1 := KeptF.cell (w0 := w8) (show w8.cell? ⟨u3.heap.size, 1, none⟩ = some _ from (HL5.out.bk 6 rfl).cell 1)
    have a2 := KeptF.cell (w0 := w8) (show w8.cell? ⟨u3.heap.size, 2, none⟩ = some _ from (HL5.out.bk 6 rfl).cell 2)
    have a3 := KeptF.cell (w0 := w8) (show w8.cell? ⟨u3.heap.size, 3, none⟩ = some _ from (HL5.out.bk 6 rfl).cell 3)
    have a4 := KeptF.cell (w0 := w8) (show w8.cell? ⟨u3.heap.size, 4, none⟩ = some _ from (HL5.out.bk 6 rfl).cell 4)
    have a5 := KeptF.cell (w0 := w8) (show w8.cell? ⟨u3.heap.size, 5, none⟩ = some _ from (HL5.out.bk 6 rfl).cell 5)
    have a6 := KeptF.cell (w0 := w8) (show w8.cell? ⟨u3.heap.size, 6, none⟩ = some _ from (HL5.out.bk 6 rfl).cell 6)
    have d0 := KeptF.cell (w0 := w8) (show w8.cell? ⟨u4.heap.size, 0, none⟩ = some _ from (HL5.out.bk 7 rfl).cell 0)
    have d1 := KeptF.cell (w0 := w8) (show w8.cell? ⟨u4.heap.size, 1, none⟩ = some _ from (HL5.out.bk 7 rfl).cell 1)
    have d2 := KeptF.cell (w0 := w8) (show w8.cell? ⟨u4.heap.size, 2, none⟩ = some _ from (HL5.out.bk 7 rfl).cell 2)
    have d3 := KeptF.cell (w0 := w8) (show w8.cell? ⟨u4.heap.size, 3, none⟩ = some _ from (HL5.out.bk 7 rfl).cell 3)
    have d4 := KeptF.cell (w0 := w8) (show w8.cell? ⟨u4.heap.size, 4, none⟩ = some _ from (HL5.out.bk 7 rfl).cell 4)
    have d5 := KeptF.cell (w0 := w8) (show w8.cell? ⟨u4.heap.size, 5, none⟩ = some _ from (HL5.out.bk 7 rfl).cell 5)
    have d6 := KeptF.cell (w0 := w8) (show w8.cell? ⟨u4.heap.size, 6, none⟩ = some _ from (HL5.out.bk 7 rfl).cell 6)
    clear hgl
    go_cut [178] from 92 to 240 (fun v178 wx => v178 = .bool false ∧ Fr w8 wx Nil)
    case first =>
     as_aux_lemma =>
      have hq1 : (!((ec == 0) == (d == 0))) = false := by rcases HED.out with ⟨e1, e2⟩ | ⟨e1, e2⟩ | ⟨e1, e2⟩ <;> rw [e1, e2] <;> rfl
      have hq2 : (!((ec == 3) == (d == 2))) = false := by rcases HED.out with ⟨e1, e2⟩ | ⟨e1, e2⟩ | ⟨e1, e2⟩ <;> rw [e1, e2] <;> rfl
      have HQ1 := Lib.hid hq1
      have HQ2 := Lib.hid hq2
      clear hq1 hq2
      refine wp_region_sink 33 (KeptF w8) (by kernel_rfl) ?_
      have hS0 : KeptF w8 w8.drew := KeptF.start _
      refine tk 0 hS0 ?_ (hy := by intro _ w; have ca0 := a0 _ w; have ca1 := a1 _ w; have ca2 := a2 _ w; have ca3 := a3 _ w; have ca4 := a4 _ w; have ca5 := a5 _ w; have ca6 := a6 _ w; go_simp <;> with_reducible rfl)
      try simp only [Act.put, sA, sB, sC]
      refine tk 1 hS0 ?_ (hy := by intro _ w; have cd0 := d0 _ w; have cd1 := d1 _ w; have cd2 := d2 _ w; have cd3 := d3 _ w; have cd4 := d4 _ w; have cd5 := d5 _ w; have cd6 := d6 _ w; go_simp <;> with_reducible rfl)
      try simp only [Act.put, sA, sB, sC]
      refine on1 2 fun K hK => ?_
      go_simp
      refine (want_any ⟨yk, yt, yr, yy, ym, yto, ywr⟩ _).mono ?_
      rintro e v3 ⟨rfl, hf3⟩
      have hS3 := KeptF.next hS0 hf3
      refine hK.out _ _ hS3 ?_
      clear hK K
      try simp only [Act.put, sA, sB, sC]
      refine tk 3 hS3 ?_
      try simp only [Act.put, sA, sB, sC]
      refine tk 4 hS3 ?_
      try simp only [Act.put, sA, sB, sC]
      refine tk 5 hS3 ?_
      try simp only [Act.put, sA, sB, sC]
      refine tk 6 hS3 ?_
      try simp only [Act.put, sA, sB, sC]
      refine tk 7 hS3 ?_
      try simp only [Act.put, sA, sB, sC]
      refine tk 8 hS3 ?_
      try simp only [Act.put, sA, sB, sC]
      refine tk 9 hS3 ?_
      try simp only [Act.put, sA, sB, sC]
      rw [HQ1.out]
      refine tk 10 hS3 ?_
      try simp only [Act.put, sA, sB, sC]
      refine tk 11 hS3 ?_
      try simp only [Act.put, sA, sB, sC]
      refine tk 12 hS3 ?_
      try simp only [Act.put, sA, sB, sC]
      refine tk 13 hS3 ?_
      try simp only [Act.put, sA, sB, sC]
      refine tk 14 hS3 ?_
      try simp only [Act.put, sA, sB, sC]
      refine tk 15 hS3 ?_
      try simp only [Act.put, sA, sB, sC]
      refine tk 16 hS3 ?_
      try simp only [Act.put, sA, sB, sC]
      rw [HQ2.out]
      refine tk 17 hS3 ?_
      try simp only [Act.put, sA, sB, sC]
      refine tk 18 hS3 ?_
      try simp only [Act.put, sA, sB, sC]
      refine tk 19 hS3 ?_
      try simp only [Act.put, sA, sB, sC]
      refine tk 20 hS3 ?_
      try simp only [Act.put, sA, sB, sC]
      refine on1 21 fun K hK => ?_
      go_simp
      obtain ⟨Sr, hr1, _⟩ := (HL5.out.fr0 (KeptF.fr hS3)).get 2 _ rfl
      obtain ⟨Sq, hq1, _⟩ := (HL5.out.fr0 (KeptF.fr hS3)).get 3 _ rfl
      refine (sameRows_any _ hr1 hq1 HS2.out.good HFE.out (by omega)).mono ?_
      rintro e v4 ⟨rfl, hf4⟩
      have hS4 := KeptF.next hS3 hf4
      refine hK.out _ _ hS4 ?_
      clear hK K
      try simp only [Act.put, sA, sB, sC]
      refine tk 22 hS4 ?_
      try simp only [Act.put, sA, sB, sC]
      refine tk 23 hS4 ?_
      try simp only [Act.put, sA, sB, sC]
      refine tk 24 hS4 ?_
      try simp only [Act.put, sA, sB, sC]
      refine tk 25 hS4 ?_
      try simp only [Act.put, sA, sB, sC]
      refine tk 27 hS4 ?_
      try simp only [Act.put, sA, sB, sC]
      refine tk 28 hS4 ?_
      try simp only [Act.put, sA, sB, sC]
      refine tk 29 hS4 ?_
      try simp only [Act.put, sA, sB, sC]
      refine tk 30 hS4 ?_ (hy := by intro _ w; have ckl := kl _ w; go_simp <;> with_reducible rfl)
      try simp only [Act.put, sA, sB, sC]
      refine tk 31 hS4 ?_
      try simp only [Act.put, sA, sB, sC]
      refine on1 26 fun K hK => ?_
      go_simp
      obtain ⟨Su, hu1, _⟩ := (HL5.out.fr0 (KeptF.fr hS4)).get 4 _ rfl
      refine (uused_any _ hu1).mono ?_
      rintro e v5 ⟨rfl, rfl⟩
      refine hK.out _ _ hS4 ?_
      clear hK K
      try simp only [Act.put, sA, sB, sC]
      refine tk 32 hS4 ?_
      try simp only [Act.put, sA, sB, sC]
      refine wpAnyS_last (i := 33) rfl (by kernel_rfl) (by decide) (by kernel_rfl) (by rfl) fun K hK => ?_
      go_simp
      refine hK.out _ _ ?_
      have HF8 := Lib.hid (KeptF.fr hS4)
      clear hK K hS0 hS3 hS4 hf3 hf4 hr1 hq1 hu1 kl a0 d0 a1 d1 a2 d2 a3 d3 a4 d4 a5 d5 a6 d6
      go_wp2_with fail
      go_meet
      case rel => exact ⟨rfl, HF8.out⟩
    case rest =>
     obtain ⟨rfl, hf⟩ := hcut
     have HL6 := Lib.hid (HL5.out.fr0 hf)
     clear hf HL5 kl a0 d0 a1 d1 a2 d2 a3 d3 a4 d4 a5 d5 a6 d6
     by_cases h0 : ec ≠ 0
     ·have d0 : (ec != 0) = true := by rw [bne_iff_ne]; exact h0
      clear h0
      go_wp2_with fail
      refine (works_any _).mono ?_
      rintro e w9 ⟨rfl, hf⟩
      have HFZ := Lib.hid (HL6.out.fr.trans0 hf)
      clear hf
      go_wp2_with fail
      go_ret
      exact ⟨rfl, HFZ.out⟩
     have h0 : ec = 0 := Classical.not_not.1 h0
     obtain rfl : d = 0 := by rcases HED.out with h | h | h <;> omega
     subst h0
     have hyx := HOKX.out rfl
     simp only [WantD.mk.injEq] at hyx
     obtain ⟨rfl, rfl, rfl, rfl, rfl, rfl, rfl⟩ := hyx
     have HWS := Lib.hid (fun h9 => HWN.out h9 rfl)
     clear HED HWN HOKX
     have c0 := (HL6.out.bk 6 rfl).cell 0
     simp only [List.getElem?_cons_zero] at c0
     go_upto_region 21 with (fail)
     skip
     go_cut [191] from 92 to 240 (fun v wx => ∃ c : Bool, v = .bool c ∧ (c = true → yk ≠ 1) ∧ Lies w wx [stT (stOf sa la ta va oa2 L TB s2), dstT (dOf sd ld vd od2 L s2), rowsT rb s2.M, refM qb s2.M, logT ua (max 0 room) s2.lg, dlogT ud (max 0 room) s2.lg, bkT u3.heap.size 50 (#[.int .u8 yk, .int .i64 yt, .bool yr, .int .i64 yy, .int .u8 ym, .bool yto, .bool ywr] : Array Value).toList, bkT u4.heap.size 52 (#[.int .u8 yk, .int .i64 yt, .bool yr, .int .i64 yy, .int .u8 ym, .bool yto, .bool ywr] : Array Value).toList])
     case first =>
      as_aux_lemma =>
       by_cases hk1 : yk = 1
       ·subst hk1
        go_wp2_with fail
        go_meet
        case rel => exact ⟨false, rfl, fun h => Bool.noConfusion h, HL6.out⟩
       ·have d1 : (yk != 1) = true := by rw [bne_iff_ne]; exact hk1
        have HK1 := Lib.hid hk1
        clear hk1
        go_wp2_with fail
        go_meet
        case rel => exact ⟨_, rfl, fun _ => HK1.out, HL6.out⟩
     case rest =>
      obtain ⟨c, rfl, hc1, h9⟩ := hcut
      have HC1 := Lib.hid hc1
      have HL7 := Lib.hid h9
      clear hc1 h9 HL6 c0
      go_upto_if 191 with (fail)
      go_cut [29] from 92 to 240 (fun v29 wx => ∃ s3, SInv TB n0 L.length (256 + (t + 1)) (t + 1) s3 ∧ Lies w wx [stT (stOf sa la ta va oa2 L TB s3), dstT (dOf sd ld vd od2 L s3), rowsT rb s3.M, refM qb s3.M, logT ua (max 0 room) s3.lg, dlogT ud (max 0 room) s3.lg, bkT u3.heap.size 50 (#[.int .u8 yk, .int .i64 yt, .bool yr, .int .i64 yy, .int .u8 ym, .bool yto, .bool ywr] : Array Value).toList, bkT u4.heap.size 52 (#[.int .u8 yk, .int .i64 yt, .bool yr, .int .i64 yy, .int .u8 ym, .bool yto, .bool ywr] : Array Value).toList])
      case first =>
       as_aux_lemma =>
        cases c
        ·go_wp2_with fail
         go_meet
         case rel => exact ⟨s2, HS2.out.mono (by omega) (by omega), HL7.out⟩
        ·have hk9 := HC1.out rfl
         obtain rfl : s2 = s := HWS.out hk9
         rcases (show (yk = 2 ∨ yk = 3 ∨ yk = 4) ∨ yk = 5 ∨ yk = 6 by omega) with hk | hk
         ·have HG : Hid (goes (nextP (L.getD s2.at' default) s2.vars).kind = true) := Lib.hid (by rw [← HX.out]; rcases hk with rfl | rfl | rfl <;> rfl)
          have HS3 := Lib.hid (HS.out.goes HCO.out (by rw [← HX.out]; exact hk))
          clear hk hk9 hk6
          go_wp2_with fail
          refine (go_yes HL7.out 0 rfl (stOf_F HS.out HCO.out HFW.out.2.2.2.2 hnvn (by omega)) HN.out HG.out).mono ?_
          rintro e u11 ⟨rfl, h⟩
          have HL8 := Lib.hid h
          clear h HL7
          go_wp2_with fail
          refine (dgo_yes HL8.out 1 rfl (dOf_F HS.out HCO.out HFW.out.2.2.2.2 hnvn) HN.out HG.out).mono ?_
          rintro e u12 ⟨rfl, h⟩
          have HL9 := Lib.hid h
          clear h HL8
          go_wp2_with fail
          go_meet
          case rel => exact ⟨{ s2 with at' := s2.at' + 1 }, HS3.out.mono (by omega) (by omega), HL9.out⟩
         ·have HG : Hid (goes (nextP (L.getD s2.at' default) s2.vars).kind = false) := Lib.hid (by rw [← HX.out]; rcases hk with rfl | rfl <;> rfl)
          clear hk hk9 hk6
          go_wp2_with fail
          refine (go_no HL7.out 0 rfl (stOf_F HS.out HCO.out HFW.out.2.2.2.2 hnvn (by omega)) HN.out HG.out).mono ?_
          rintro e u11 ⟨rfl, h⟩
          have HL8 := Lib.hid h
          clear h HL7
          go_wp2_with fail
          refine (dgo_no HL8.out 1 rfl (dOf_F HS.out HCO.out HFW.out.2.2.2.2 hnvn) HN.out HG.out).mono ?_
          rintro e u12 ⟨rfl, h⟩
          have HL9 := Lib.hid h
          clear h HL8
          go_wp2_with fail
          refine (works_any _).mono ?_
          rintro e w9 ⟨rfl, hf⟩
          have HFZ := Lib.hid (HL9.out.fr.trans0 hf)
          clear hf
          go_wp2_with fail
          go_ret
          exact ⟨rfl, HFZ.out⟩
      case rest =>
       obtain ⟨s3, hs3, h9⟩ := hcut
       have HS3 := Lib.hid hs3
       have HL8 : Hid (Lies w _ [stT (stOf sa la ta va oa2 L TB s3), dstT (dOf sd ld vd od2 L s3), rowsT rb s3.M, refM qb s3.M, logT ua (max 0 room) s3.lg, dlogT ud (max 0 room) s3.lg]) := Lib.hid (h9.take 6)
       clear hs3 h9 HL7 HC1 HS2 HWS
       have hvl3 : s3.vars.length ≤ 1000000 := by have := HS3.out.len; omega
       have hol3 : s3.out.length ≤ 1000000 := by have := HS3.out.out; omega
       go_wp2_with fail
       refine (vars_any _ _ (HL8.out.stR 0 rfl) hvl3).mono ?_
       rintro e u7 ⟨xa, xc, rfl, hxo, hxf⟩
       have HL9 := Lib.hid (HL8.out.add (owI (.slice xa s3.vars.length xc) s3.vars) (S := fun k => (Value.slice xa s3.vars.length xc).ownBlock = some k) ⟨own_mono hxo (Nat.zero_le _), fun _ => Iff.rfl⟩ (fun k hk => (World.ownsRow.lt hxo k hk).1) hxf)
       clear hxo hxf HL8
       go_wp2_with fail
       refine (out_any _ _ (HL9.out.stR 0 rfl) hol3).mono ?_
       rintro e u8 ⟨ya, yc, rfl, hyo, hyf⟩
       have HL10 : Hid (Lies w u8 [stT (stOf sa la ta va oa2 L TB s3), dstT (dOf sd ld vd od2 L s3), rowsT rb s3.M, refM qb s3.M, logT ua (max 0 room) s3.lg, dlogT ud (max 0 room) s3.lg, owI (.slice xa s3.vars.length xc) s3.vars, owI (.slice ya s3.out.length yc) s3.out]) := Lib.hid (HL9.out.add (owI (.slice ya s3.out.length yc) s3.out) (S := fun k => (Value.slice ya s3.out.length yc).ownBlock = some k) ⟨own_mono hyo (Nat.zero_le _), fun _ => Iff.rfl⟩ (fun k hk => (World.ownsRow.lt hyo k hk).1) hyf)
       clear hyo hyf HL9
       go_wp2_with fail
       go_loopw [32] (fun vi wr => ∃ (i : Nat) (xs : List Int), i ≤ s3.vars.length ∧ xs.length = s3.vars.length ∧ vi = .int .i64 i ∧ Lies w wr [stT (stOf sa la ta va oa2 L TB s3), dstT (dOf sd ld vd od2 L s3), rowsT rb s3.M, refM qb s3.M, logT ua (max 0 room) s3.lg, dlogT ud (max 0 room) s3.lg, owI (.slice xa s3.vars.length xc) xs, owI (.slice ya s3.out.length yc) s3.out]) (fun vi _ => s3.vars.length - (intOf vi).toNat)
       case atStart => exact ⟨0, s3.vars, by omega, rfl, rfl, HL10.out⟩
       case round =>
        clear HL10
        obtain ⟨i, xs, hi, hxl, rfl, h⟩ := hrel
        have HLi := Lib.hid h
        have HXL := Lib.hid hxl
        obtain ⟨wo2, rfl⟩ : ∃ wo2 : World, wo2 = wr := ⟨_, rfl⟩
        clear h hxl
        by_cases hlt2 : i < s3.vars.length
        ·have hri := HLi.out.rowI 6 rfl
         obtain ⟨g, gcap, eg, _⟩ := hri.form (by have := HXL.out; omega)
         simp only [Value.slice.injEq] at eg
         rcases eg with ⟨rfl, -, rfl⟩
         have hc1 := hri.cell HXL.out.symm i (by have := HXL.out; omega)
         have hc2 := hri.free HXL.out.symm i
         have hii2 : (i : Int) < (s3.vars.length : Int) := by omega
         clear hri
         go_wp2_with fail
         have h9 := fun x => HLi.out.setI 6 rfl HXL.out.symm i x
         go_roundw
         case rel => exact ⟨i + 1, _, by omega, by rw [List.length_set]; exact HXL.out, by go_num, h9 _⟩
         case measure => simp [intOf]; omega
        ·obtain rfl : i = s3.vars.length := by omega
         have hii2 : ¬ (s3.vars.length : Int) < (s3.vars.length : Int) := by omega
         go_wp2_with fail
         go_loopw [33] (fun vi wr => ∃ (i : Nat) (ys : List Int), i ≤ s3.out.length ∧ ys.length = s3.out.length ∧ vi = .int .i64 i ∧ Lies w wr [stT (stOf sa la ta va oa2 L TB s3), dstT (dOf sd ld vd od2 L s3), rowsT rb s3.M, refM qb s3.M, logT ua (max 0 room) s3.lg, dlogT ud (max 0 room) s3.lg, owI (.slice xa s3.vars.length xc) xs, owI (.slice ya s3.out.length yc) ys]) (fun vi _ => s3.out.length - (intOf vi).toNat)
         case atStart => exact ⟨0, s3.out, by omega, rfl, rfl, HLi.out⟩
         case round =>
          clear HLi HXL
          obtain ⟨i, ys, hi, hxl, rfl, h⟩ := hrel
          have HLi := Lib.hid h
          have HXL := Lib.hid hxl
          obtain ⟨wo2, rfl⟩ : ∃ wo2 : World, wo2 = wr := ⟨_, rfl⟩
          clear h hxl
          by_cases hlt2 : i < s3.out.length
          ·have hri := HLi.out.rowI 7 rfl
           obtain ⟨g, gcap, eg, _⟩ := hri.form (by have := HXL.out; omega)
           simp only [Value.slice.injEq] at eg
           rcases eg with ⟨rfl, -, rfl⟩
           have hc1 := hri.cell HXL.out.symm i (by have := HXL.out; omega)
           have hc2 := hri.free HXL.out.symm i
           have hii2 : (i : Int) < (s3.out.length : Int) := by omega
           clear hri
           go_wp2_with fail
           have h9 := fun x => HLi.out.setI 7 rfl HXL.out.symm i x
           go_roundw
           case rel => exact ⟨i + 1, _, by omega, by rw [List.length_set]; exact HXL.out, by go_num, h9 _⟩
           case measure => simp [intOf]; omega
          ·obtain rfl : i = s3.out.length := by omega
           have hii2 : ¬ (s3.out.length : Int) < (s3.out.length : Int) := by omega
           go_wp2_with fail
           go_roundw
           case rel => exact ⟨t + 1, s3, oa2, od2, by omega, by go_num, HS3.out, HLi.out.take 6⟩
           case measure => simp [intOf]; omega
  ·have hii : ¬ (t : Int) < 150 := by omega
   go_wp2_with fail
   refine (works_any _).mono ?_
   rintro e w9 ⟨rfl, hf⟩
   have HFZ := Lib.hid (HL.out.fr.trans0 hf)
   clear hf
   go_wp2_with fail
   go_ret
   exact ⟨rfl, HFZ.out⟩
end
end Go.Proofs.YtgpekgnhbccnoaaGreat
namespace Go.Proofs.YtgpekgnhbccnoaaGreat
open Go Go.RowKit

theorem plays_int (lv tv av : Value) (L : List InstrD) (TB args : List Int) (nv m room st : Int) (w : World) (h : CodeAt w lv L) (hcap : CapOk lv) (hop : ∀ n ∈ L, 0 ≤ n.op ∧ n.op < 256) (ht : IntsAt w tv TB) (ha : IntsAt w av args) (hm : (Lit.int .u8 m).wf = true) :
  Calls Tryz.prog 3 #[lv, tv, .int .i64 nv, av, .int .u8 m, .int .i64 room, .int .u64 st] w fun e w' => e = .returned (.bool true) ∧ Fr w w' Nil := by
 have h1 := u8_range hm
 obtain ⟨mm, rfl⟩ : ∃ mm : Nat, m = (mm : Int) := ⟨m.toNat, by omega⟩
 exact plays_any lv tv av L TB args nv room st mm w h hcap hop ht ha (by omega)
end Go.Proofs.YtgpekgnhbccnoaaGreat
