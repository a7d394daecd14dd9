/-
 Walk of the document's Eval.
 No condition but sizes.
-/
import Derived.Test.YtgpekgnhbccnoaaGreatPkY5
import Derived.Test.YtgpekgnhbccnoaaGreatPkY15
import Derived.Test.YtgpekgnhbccnoaaGreatPkY19
namespace Go.Proofs.YtgpekgnhbccnoaaGreat
open Go Go.RowKit
theorem devalP_bad {vars : List Int} {l : List TermD} (h : evalS vars l [] = none) : evalP vars l = (0, false) := by unfold evalP; rw [h]
theorem one_atD (w : World) (e : TypeId) (x : Value) (b : Nat) (hb : w.heap.size = b) : SlAt (w.alloc (.cells #[x] e)) 1 (.slice (some ⟨b, 0, none⟩) 1 1) 1 [x] := by
 subst hb
 have := (SlAt.of_own (World.ownsRow_lit (base := 0) (e := e) (size := 1) w #[x] 1 (Nat.zero_le _) (by decide) rfl)).1
 simpa using this
theorem ones_D (x : Int) : ∀ u ∈ [Value.int .i64 x], u.oneCell' = true := by simp [Value.oneCell']
section
variable {w0 W : World} {l : List Thing}
theorem Lies.grewD (h : Lies w0 W l) (i : Nat) {v : Value} {xs : List Int} (hi : l[i]? = some (owI v xs)) {g : Option Addr} {cap : Nat} {W' : World} {y : Int} (h2 : W'.ownsRow 0 2 1 (.slice g (xs.length + 1) cap) (xs.length + 1) (xs.map (Value.int .i64) ++ [.int .i64 y]))
  (h3 : W.grownBy W' v.ownBlock) (h4 : (Value.slice g (xs.length + 1) cap).ownBlock = v.ownBlock ∨ (Value.slice g (xs.length + 1) cap).ownBlock = some W.heap.size) : Lies w0 W' (l.set i (owI (.slice g (xs.length + 1) cap) (xs ++ [y]))) := by
 have e : xs.length + 1 = (xs ++ [y]).length := by simp
 obtain ⟨S, k1, _, k2⟩ := h.get i _ hi
 refine k2 W' (fun k => (Value.slice g (xs.length + 1) cap).ownBlock = some k) _ ⟨by unfold OwnInts; rw [List.map_append, ← e]; exact h2, fun _ => Iff.rfl⟩ (fun k hk => ?_) ((Fr.refl W _).grown h3 fun k hk _ => (k1.2 k).2 hk)
 rcases h4 with e4 | e4
 ·exact .inl ((k1.2 k).2 (by rw [← e4]; exact hk))
 ·rw [e4] at hk; cases hk; exact .inr (Nat.le_refl _)
end
theorem dstep_neg {vars : List Int} {t : TermD} {p : List Int} (hk : t.kind = 6) (hp : 1 ≤ p.length) : stepP vars t p = some (p.set (p.length - 1) (wrap64 (-p.getD (p.length - 1) 0))) := by
 unfold stepP
 rw [if_neg (by omega), if_neg (by omega), if_pos hk, if_pos hp]
 congr 1
 rw [List.set_eq_take_append_cons_drop, if_pos (by omega), List.drop_of_length_le (by omega)]
def binD (k : Int) (x y : Int) : Int := if k = 3 then wrap64 (x + y) else if k = 4 then wrap64 (x - y) else wrap64 (x * y)
theorem dstep_bin {vars : List Int} {t : TermD} {p : List Int} (hk : t.kind = 3 ∨ t.kind = 4 ∨ t.kind = 5) (hp : 2 ≤ p.length) : stepP vars t p = some (p.take (p.length - 2) ++ [binD t.kind (p.getD (p.length - 2) 0) (p.getD (p.length - 1) 0)]) := by
 unfold stepP binD
 rw [if_neg (by omega), if_neg (by omega), if_neg (by omega)]
 rcases hk with h | h | h
 ·rw [if_pos h, if_pos hp, if_pos h]
 ·rw [if_neg (by omega), if_pos h, if_pos hp, if_neg (by omega), if_pos h]
 ·rw [if_neg (by omega), if_neg (by omega), if_pos h, if_pos hp, if_neg (by omega), if_neg (by omega)]
theorem step_badD {vars : List Int} {k n v : Int} {p : List Int} (h1 : k ≠ 1) (h2 : ¬ (k = 2 ∧ 0 ≤ v ∧ v < vars.length)) (h6 : ¬ (k = 6 ∧ 1 ≤ p.length)) (h3 : ¬ ((k = 3 ∨ k = 4 ∨ k = 5) ∧ 2 ≤ p.length)) : stepP vars ⟨k, n, v⟩ p = none := by
 unfold stepP
 simp only
 rw [if_neg h1]
 split
 ·exact if_neg fun h => h2 ⟨by assumption, h⟩
 ·split
  ·exact if_neg fun h => h6 ⟨by assumption, h⟩
  ·split
   ·exact if_neg fun h => h3 ⟨.inl (by assumption), h⟩
   ·split
    ·exact if_neg fun h => h3 ⟨.inr (.inl (by assumption)), h⟩
    ·split
     ·exact if_neg fun h => h3 ⟨.inr (.inr (by assumption)), h⟩
     ·rfl
theorem step_varD {vars : List Int} {n : Int} {m : Nat} {p : List Int} (h : m < vars.length) : stepP vars ⟨2, n, (m : Int)⟩ p = some (p ++ [vars.getD m 0]) := by
 have h2 : (0 : Int) ≤ m ∧ (m : Int) < vars.length := by omega
 unfold stepP
 simp only [Int.toNat_natCast]
 rw [if_neg (by decide)]
 simp [h2, h]
theorem wrapD (x : Int) : IntKind.i64.wrap x = wrap64 x := by
 unfold wrap64
 rw [IntKind.wrap_i64]
theorem dsnoc1 {p : List Int} (h : 1 ≤ p.length) : ∃ ps z, p = ps ++ [z] := ⟨p.dropLast, p.getLast (by intro e; subst e; simp at h), (List.dropLast_concat_getLast _).symm⟩
theorem dsnoc2 {p : List Int} (h : 2 ≤ p.length) : ∃ ps x y, p = ps ++ [x, y] := by
 obtain ⟨ps, y, rfl⟩ := dsnoc1 (p := p) (by omega)
 obtain ⟨qs, x, rfl⟩ := dsnoc1 (p := ps) (by simp at h; omega)
 exact ⟨qs, x, y, by simp⟩
theorem down_cap {w : World} {e : TypeId} {a : Option Addr} {n c : Nat} {xs : List Int} (h : OwnInts w e (.slice a n c) xs) : xs.length ≤ c ∨ xs.length = 0 := by
 rcases h.2 with ⟨_, hn⟩ | ⟨g, cap, cur, he, _, _, hc, _⟩
 ·exact .inr hn
 ·cases he; exact .inl hc
set_option maxRecDepth 100000 in
set_option maxHeartbeats 8000000 in
theorem deval_any (tv vv : Value) (L : List TermD) (vars : List Int) (w : World) (ht : TermsAt w tv L) (hv : IntsAt w vv vars) (hl : L.length ≤ 100000) (hvl : vars.length ≤ 1000000) :
  Calls Tryz.prog 90 #[tv, vv] w fun e w' => e = .returned (.tuple #[.int .i64 (evalP vars L).1, .bool (evalP vars L).2]) ∧ Fr w w' Nil := by
 obtain ⟨ta, tc, rfl⟩ := ht.shape
 obtain ⟨va, vc, rfl⟩ := hv.shape
 have HT := Lib.hid ht
 have HV := Lib.hid hv
 have HL0 := Lib.hid ((Lies.nil (Fr.refl w Nil)).nilI)
 obtain ⟨r, hr⟩ : ∃ r, r = evalP vars L := ⟨_, rfl⟩
 rw [← hr]
 have HR := Lib.hid hr
 clear ht hv hr
 go_enter Tryz.func90, Tryz.ntmps90
 go_wp2_with fail
 go_loopw [6, 7] (fun vp vi wr => ∃ (i : Nat) (p : List Int) (a : Option Addr) (cap : Nat), i ≤ L.length ∧ vi = .int .i64 i ∧ vp = .slice a p.length cap ∧ p.length ≤ i ∧ evalS vars (L.drop i) p = evalS vars L [] ∧ Lies w wr [owI (.slice a p.length cap) p]) (fun _ vi _ => L.length - (intOf vi).toNat)
 case atStart => exact ⟨0, [], none, 0, by omega, rfl, rfl, by simp, rfl, HL0.out⟩
 case round =>
  clear HL0
  obtain ⟨i, p, a, cap, hi, rfl, rfl, hpl, hev, h⟩ := hrel
  have HL := Lib.hid h
  have HEV := Lib.hid hev
  obtain ⟨wo, rfl⟩ : ∃ wo : World, wo = wr := ⟨_, rfl⟩
  clear h hev
  by_cases hlt : i < L.length
  ·obtain ⟨tb, toff, tcap, htv, htc⟩ := (HT.out.fr0 HL.out.fr).form (by omega)
   simp only [Value.slice.injEq, true_and] at htv
   obtain ⟨rfl, rfl⟩ := htv
   have hx := List.getElem?_eq_getElem hlt
   have HX := Lib.hid hx
   generalize L[i] = t at hx HX
   obtain ⟨q0, q1, q2⟩ := htc i t hx
   have HRD := Lib.hid (evalS_round HEV.out HX.out)
   have hii : (i : Int) < (L.length : Int) := by omega
   obtain ⟨tk, tn, tvv⟩ := t
   simp only at q0 q1 q2
   have HLy := Lib.hid (HL.out.fr0 ((Fr.refl wo Nil).alloc (.cells #[.int .u8 tk, .int .i64 tn, .int .i64 tvv] 166)))
   have HVy := Lib.hid (IntsAt.fr HV.out HLy.out.fr fun _ _ h => h)
   clear hx htc
   by_cases e1 : tk = 1
   ·subst e1
    have HQ := Lib.hid (HRD.out.1 (p ++ [tn]) rfl)
    have HLz := Lib.hid (HLy.out.fr0 ((Fr.refl _ Nil).alloc (.cells #[.int .i64 tn] 2)))
    have HO := Lib.hid (HLz.out.rowI 0 rfl)
    go_wp2_with (at_builtin; refine wpList_app _ rfl _ _ 24 rfl Tryz.sltRun (.slice a p.length cap) rfl HO.out _ rfl (one_atD _ _ _ _ (by simp)) (ones_D _) (by omega) ?_)
    rintro g cap2 w6 h2 h3 h4
    have HL6 := Lib.hid (HLz.out.grewD 0 rfl h2 h3 (by simpa using h4))
    clear h2 h3 h4
    go_wp2_with fail
    go_roundw
    case rel => exact ⟨i + 1, p ++ [tn], g, cap2, by omega, by go_num, by simp, by simp; omega, HQ.out, by simpa using HL6.out⟩
    case measure => simp [intOf]; omega
   by_cases e2 : tk = 2
   ·subst e2
    by_cases hv2 : 0 ≤ tvv ∧ tvv < vars.length
    ·obtain ⟨m, rfl⟩ : ∃ m : Nat, tvv = (m : Int) := ⟨tvv.toNat, by omega⟩
     have hm : m < vars.length := by omega
     have hmi : (m : Int) < (vars.length : Int) := by omega
     obtain ⟨vb, voff, vcap, hvv, hvc⟩ := HVy.out.form (by omega)
     simp only [Value.slice.injEq, true_and] at hvv
     obtain ⟨rfl, rfl⟩ := hvv
     have hy := List.getElem?_eq_getElem hm
     have hyd : vars.getD m 0 = vars[m] := by rw [List.getD_eq_getElem?_getD, hy]; rfl
     generalize vars[m] = y at hy hyd
     have c0 := hvc m y hy
     have HQ := Lib.hid (HRD.out.1 (p ++ [y]) (by rw [step_varD hm, hyd]))
     have HLz := Lib.hid (HLy.out.fr0 ((Fr.refl _ Nil).alloc (.cells #[.int .i64 y] 2)))
     have HO := Lib.hid (HLz.out.rowI 0 rfl)
     clear hvc hy hyd hv2
     go_wp2_with (at_builtin; refine wpList_app _ rfl _ _ 24 rfl Tryz.sltRun (.slice a p.length cap) rfl HO.out _ rfl (one_atD _ _ _ _ (by simp)) (ones_D _) (by omega) ?_)
     rintro g cap2 w6 h2 h3 h4
     have HL6 := Lib.hid (HLz.out.grewD 0 rfl h2 h3 (by simpa using h4))
     clear h2 h3 h4 c0
     go_wp2_with fail
     go_roundw
     case rel => exact ⟨i + 1, p ++ [y], g, cap2, by omega, by go_num, by simp, by simp; omega, HQ.out, by simpa using HL6.out⟩
     case measure => simp [intOf]; omega
    ·have HS := Lib.hid (step_badD (vars := vars) (p := p) (k := 2) (n := tn) (v := tvv) (by decide) (fun h => hv2 h.2) (fun h => absurd h.1 (by decide)) (fun h => absurd h.1 (by decide)))
     have hv3 : ¬ 0 ≤ tvv ∨ (0 ≤ tvv ∧ ¬ tvv < (vars.length : Int)) := by omega
     have HE := Lib.hid (devalP_bad (HRD.out.2 HS.out))
     clear hv2
     rcases hv3 with h9 | ⟨h9, h8⟩
     all_goals
      go_wp2_with fail
      go_ret2
      exact ⟨by rw [HR.out, HE.out]; rfl, HLy.out.fr⟩
   by_cases e6 : tk = 6
   ·subst e6
    by_cases h6 : 1 ≤ p.length
    ·have HQ := Lib.hid (HRD.out.1 _ (dstep_neg (vars := vars) (t := ⟨6, tn, tvv⟩) rfl h6))
     obtain ⟨ps, z, rfl⟩ := dsnoc1 h6
     have HO := HLy.out.rowI 0 rfl
     obtain ⟨gb, gc, hgv, _⟩ := HO.form (by omega)
     simp only [Value.slice.injEq] at hgv
     obtain ⟨rfl, -, rfl⟩ := hgv
     have y0 := HO.cell rfl ps.length (by simp)
     have yf := HO.free rfl ps.length
     have yv : (ps ++ [z]).getD ps.length 0 = z := by simp
     rw [yv] at y0
     have HLs := Lib.hid (HLy.out.setI 0 rfl rfl ps.length (wrap64 (-z)))
     have ep : (ps ++ [z]).length - 1 = ps.length := by simp
     rw [ep, yv] at HQ
     clear HO yv ep h6
     simp only [List.length_append, List.length_cons, List.length_nil, Nat.zero_add] at hpl HLs ⊢
     go_wp2_with fail
     go_roundw
     case rel => exact ⟨i + 1, (ps ++ [z]).set ps.length (wrap64 (-z)), some ⟨gb, 0, none⟩, cap, by omega, by go_num, by simp, by simp; omega, HQ.out, by simpa using HLs.out⟩
     case measure => simp [intOf]; omega
    ·have h7 : ¬ (1 : Int) ≤ (p.length : Int) := by omega
     have HE := Lib.hid (devalP_bad (HRD.out.2 (step_badD (vars := vars) (p := p) (k := 6) (n := tn) (v := tvv) (by decide) (fun h => absurd h.1 (by decide)) (fun h => h6 h.2) (fun h => absurd h.1 (by decide)))))
     go_wp2_with fail
     go_ret2
     exact ⟨by rw [HR.out, HE.out]; rfl, HLy.out.fr⟩
   by_cases e3 : tk = 3 ∨ tk = 4 ∨ tk = 5
   ·by_cases h3 : 2 ≤ p.length
    ·have HQ := Lib.hid (HRD.out.1 _ (dstep_bin (vars := vars) (t := ⟨tk, tn, tvv⟩) e3 h3))
     obtain ⟨ps, x, y, rfl⟩ := dsnoc2 h3
     have HO := HLy.out.rowI 0 rfl
     have hcp := down_cap HO
     obtain ⟨gb, gc, hgv, _⟩ := HO.form (by omega)
     simp only [Value.slice.injEq] at hgv
     obtain ⟨rfl, -, rfl⟩ := hgv
     have y0 := HO.cell rfl ps.length (by simp)
     have y1 := HO.cell rfl (ps.length + 1) (by simp)
     have yx : (ps ++ [x, y]).getD ps.length 0 = x := by simp
     have yy : (ps ++ [x, y]).getD (ps.length + 1) 0 = y := by simp
     rw [yx] at y0
     rw [yy] at y1
     have HLt := HLy.out.takeI 0 rfl rfl ps.length (by simp)
     rw [List.take_left' rfl] at HLt
     have HLT := Lib.hid HLt
     have hq := HQ.out
     have el : (ps ++ [x, y]).length = ps.length + 2 := by simp
     rw [el, Nat.add_sub_cancel, show ps.length + 2 - 1 = ps.length + 1 by omega, yx, yy, List.take_left' rfl] at hq
     have HQ2 := Lib.hid hq
     have hcap : ps.length + 2 ≤ cap := by rw [el] at hcp; omega
     have hw0 : IntKind.i64.wrap (ps.length : Int) = (ps.length : Int) := by rw [wrapD]; unfold wrap64; omega
     have hw1' : IntKind.i64.wrap ((ps.length : Int) + 2 - 1) = (ps.length : Int) + 1 := by rw [wrapD]; unfold wrap64; omega
     have hn0 : (0 : Int) ≤ (ps.length : Int) + 1 := by omega
     have hn1 : ((ps.length : Int) + 1).toNat = ps.length + 1 := by omega
     have hc0 : (ps.length : Int) ≤ (cap : Int) := by omega
     have hb0 : (ps.length : Int) < (ps.length : Int) + 2 := by omega
     have hb1 : (ps.length : Int) + 1 < (ps.length : Int) + 2 := by omega
     obtain ⟨w1, hw1⟩ : ∃ w1, w1 = wo.alloc (.cells #[.int .u8 tk, .int .i64 tn, .int .i64 tvv] 166) := ⟨_, rfl⟩
     rw [← hw1] at HLT y0 y1
     have HW1 := Lib.hid hw1
     have HFw := Lib.hid (HLy.out.fr)
     have k0 := KeptF.cell y0
     have k1 := KeptF.cell y1
     have hpl2 : ps.length + 2 ≤ i := by rw [el] at hpl; omega
     clear HLt hq HQ HO yx yy el hcp hw1 h3 hpl y0 y1
     simp only [List.length_append, List.length_cons, List.length_nil, Nat.zero_add] at ⊢
     rcases e3 with rfl | rfl | rfl
     ·go_wp2_with fail
      rw [← HW1.out]
      refine wp_region_sink 16 (KeptF w1) (by kernel_rfl) ?_
      have hSa : KeptF w1 w1.drew := KeptF.start _
      refine tk 0 hSa ?_
      refine tk 1 hSa ?_
      refine tk 2 hSa ?_
      refine tk 3 hSa ?_
      refine tk 4 hSa ?_
      refine tk 5 hSa ?_
      refine tk 6 hSa ?_
      refine tk 7 hSa ?_
      try simp only [Act.put, sA, sB, sC]
      refine tk 8 hSa ?_ (hy := by intro _ w; have ck0 := k0 _ w; go_simp <;> with_reducible rfl)
      try simp only [Act.put, sA, sB, sC]
      refine tk 9 hSa ?_
      refine tk 10 hSa ?_
      refine tk 11 hSa ?_
      refine tk 12 hSa ?_
      try simp only [Act.put, sA, sB, sC]
      refine tk 13 hSa ?_ (hy := by intro _ w; have ck1 := k1 _ w; go_simp <;> with_reducible rfl)
      try simp only [Act.put, sA, sB, sC]
      refine tk 14 hSa ?_
      try simp only [Act.put, sA, sB, sC]
      refine on1 15 fun K hK => ?_
      go_simp
      have hSb := KeptF.next hSa ((Fr.refl _ Nil).alloc (.cells #[.int .i64 (IntKind.i64.wrap (x + y))] 2))
      refine hK.out _ _ hSb ?_
      clear hK K
      try simp only [Act.put, sA, sB, sC]
      have HLb := Lib.hid (HLT.out.fr0 (KeptF.fr hSb))
      have HOb := Lib.hid (HLb.out.rowI 0 rfl)
      refine wpAnyS_last2 (i := 16) (j := 17) rfl rfl (by kernel_rfl) (by decide) (by kernel_rfl) (by kernel_rfl) (by rfl) rfl fun K hK => ?_
      refine wp_app (P := Tryz.prog) _ _ _ 24 rfl Tryz.sltRun _ rfl HOb.out _ rfl (one_atD _ _ _ _ rfl) (ones_D _) (by omega) ?_
      intro g cap2 w6 h2 h3 h4
      have HL6 := Lib.hid (HLb.out.grewD 0 rfl h2 h3 h4)
      refine hK.out _ _ ?_
      intro K2 hK2
      clear hK K h2 h3 h4 hSa hSb k0 k1 HLb HOb
      go_simp
      refine hK2.out _ _ ?_
      clear hK2 K2
      rw [wrapD] at HL6
      go_wp2_with fail
      go_roundw
      case rel => exact ⟨i + 1, ps ++ [wrap64 (x + y)], g, cap2, by omega, by go_num, by simp, by simp; omega, HQ2.out, by simpa using HL6.out⟩
      case measure => simp [intOf]; omega
     ·go_wp2_with fail
      rw [← HW1.out]
      refine wp_region_sink 16 (KeptF w1) (by kernel_rfl) ?_
      have hSa : KeptF w1 w1.drew := KeptF.start _
      refine tk 0 hSa ?_
      refine tk 1 hSa ?_
      refine tk 2 hSa ?_
      refine tk 3 hSa ?_
      refine tk 4 hSa ?_
      refine tk 5 hSa ?_
      refine tk 6 hSa ?_
      refine tk 7 hSa ?_
      try simp only [Act.put, sA, sB, sC]
      refine tk 8 hSa ?_ (hy := by intro _ w; have ck0 := k0 _ w; go_simp <;> with_reducible rfl)
      try simp only [Act.put, sA, sB, sC]
      refine tk 9 hSa ?_
      refine tk 10 hSa ?_
      refine tk 11 hSa ?_
      refine tk 12 hSa ?_
      try simp only [Act.put, sA, sB, sC]
      refine tk 13 hSa ?_ (hy := by intro _ w; have ck1 := k1 _ w; go_simp <;> with_reducible rfl)
      try simp only [Act.put, sA, sB, sC]
      refine tk 14 hSa ?_
      try simp only [Act.put, sA, sB, sC]
      refine on1 15 fun K hK => ?_
      go_simp
      have hSb := KeptF.next hSa ((Fr.refl _ Nil).alloc (.cells #[.int .i64 (IntKind.i64.wrap (x - y))] 2))
      refine hK.out _ _ hSb ?_
      clear hK K
      try simp only [Act.put, sA, sB, sC]
      have HLb := Lib.hid (HLT.out.fr0 (KeptF.fr hSb))
      have HOb := Lib.hid (HLb.out.rowI 0 rfl)
      refine wpAnyS_last2 (i := 16) (j := 17) rfl rfl (by kernel_rfl) (by decide) (by kernel_rfl) (by kernel_rfl) (by rfl) rfl fun K hK => ?_
      refine wp_app (P := Tryz.prog) _ _ _ 24 rfl Tryz.sltRun _ rfl HOb.out _ rfl (one_atD _ _ _ _ rfl) (ones_D _) (by omega) ?_
      intro g cap2 w6 h2 h3 h4
      have HL6 := Lib.hid (HLb.out.grewD 0 rfl h2 h3 h4)
      refine hK.out _ _ ?_
      intro K2 hK2
      clear hK K h2 h3 h4 hSa hSb k0 k1 HLb HOb
      go_simp
      refine hK2.out _ _ ?_
      clear hK2 K2
      rw [wrapD] at HL6
      go_wp2_with fail
      go_roundw
      case rel => exact ⟨i + 1, ps ++ [wrap64 (x - y)], g, cap2, by omega, by go_num, by simp, by simp; omega, HQ2.out, by simpa using HL6.out⟩
      case measure => simp [intOf]; omega
     ·go_wp2_with fail
      rw [← HW1.out]
      refine wp_region_sink 16 (KeptF w1) (by kernel_rfl) ?_
      have hSa : KeptF w1 w1.drew := KeptF.start _
      refine tk 0 hSa ?_
      refine tk 1 hSa ?_
      refine tk 2 hSa ?_
      refine tk 3 hSa ?_
      refine tk 4 hSa ?_
      refine tk 5 hSa ?_
      refine tk 6 hSa ?_
      refine tk 7 hSa ?_
      try simp only [Act.put, sA, sB, sC]
      refine tk 8 hSa ?_ (hy := by intro _ w; have ck0 := k0 _ w; go_simp <;> with_reducible rfl)
      try simp only [Act.put, sA, sB, sC]
      refine tk 9 hSa ?_
      refine tk 10 hSa ?_
      refine tk 11 hSa ?_
      refine tk 12 hSa ?_
      try simp only [Act.put, sA, sB, sC]
      refine tk 13 hSa ?_ (hy := by intro _ w; have ck1 := k1 _ w; go_simp <;> with_reducible rfl)
      try simp only [Act.put, sA, sB, sC]
      refine tk 14 hSa ?_
      try simp only [Act.put, sA, sB, sC]
      refine on1 15 fun K hK => ?_
      go_simp
      have hSb := KeptF.next hSa ((Fr.refl _ Nil).alloc (.cells #[.int .i64 (IntKind.i64.wrap (x * y))] 2))
      refine hK.out _ _ hSb ?_
      clear hK K
      try simp only [Act.put, sA, sB, sC]
      have HLb := Lib.hid (HLT.out.fr0 (KeptF.fr hSb))
      have HOb := Lib.hid (HLb.out.rowI 0 rfl)
      refine wpAnyS_last2 (i := 16) (j := 17) rfl rfl (by kernel_rfl) (by decide) (by kernel_rfl) (by kernel_rfl) (by rfl) rfl fun K hK => ?_
      refine wp_app (P := Tryz.prog) _ _ _ 24 rfl Tryz.sltRun _ rfl HOb.out _ rfl (one_atD _ _ _ _ rfl) (ones_D _) (by omega) ?_
      intro g cap2 w6 h2 h3 h4
      have HL6 := Lib.hid (HLb.out.grewD 0 rfl h2 h3 h4)
      refine hK.out _ _ ?_
      intro K2 hK2
      clear hK K h2 h3 h4 hSa hSb k0 k1 HLb HOb
      go_simp
      refine hK2.out _ _ ?_
      clear hK2 K2
      rw [wrapD] at HL6
      go_wp2_with fail
      go_roundw
      case rel => exact ⟨i + 1, ps ++ [wrap64 (x * y)], g, cap2, by omega, by go_num, by simp, by simp; omega, HQ2.out, by simpa using HL6.out⟩
      case measure => simp [intOf]; omega
    ·have h7 : ¬ (2 : Int) ≤ (p.length : Int) := by omega
     have f1 : (tk == 1) = false := by rw [beq_eq_false_iff_ne]; exact e1
     have f2 : (tk == 2) = false := by rw [beq_eq_false_iff_ne]; exact e2
     have f6 : (tk == 6) = false := by rw [beq_eq_false_iff_ne]; exact e6
     have HE := Lib.hid (devalP_bad (HRD.out.2 (step_badD (vars := vars) (p := p) (k := tk) (n := tn) (v := tvv) e1 (fun h => e2 h.1) (fun h => e6 h.1) (fun h => h3 h.2))))
     clear e1 e2 e6
     rcases e3 with rfl | rfl | rfl
     all_goals
      go_wp2_with fail
      go_ret2
      exact ⟨by rw [HR.out, HE.out]; rfl, HLy.out.fr⟩
   ·have f1 : (tk == 1) = false := by rw [beq_eq_false_iff_ne]; omega
    have f2 : (tk == 2) = false := by rw [beq_eq_false_iff_ne]; omega
    have f3 : (tk == 3) = false := by rw [beq_eq_false_iff_ne]; omega
    have f4 : (tk == 4) = false := by rw [beq_eq_false_iff_ne]; omega
    have f5 : (tk == 5) = false := by rw [beq_eq_false_iff_ne]; omega
    have f6 : (tk == 6) = false := by rw [beq_eq_false_iff_ne]; omega
    have HE := Lib.hid (devalP_bad (HRD.out.2 (step_badD (vars := vars) (p := p) (k := tk) (n := tn) (v := tvv) e1 (fun h => e2 h.1) (fun h => e6 h.1) (fun h => e3 h.1))))
    clear e1 e2 e3 e6
    go_wp2_with fail
    go_ret2
    exact ⟨by rw [HR.out, HE.out]; rfl, HLy.out.fr⟩
  ·obtain rfl : i = L.length := by omega
   have HE := Lib.hid (evalP_end HEV.out (Nat.le_refl _))
   by_cases h1 : p.length = 1
   ·obtain ⟨z, rfl⟩ : ∃ z, p = [z] := by
     match p, h1 with
     | [z], _ => exact ⟨z, rfl⟩
    obtain ⟨b1, c1, hv1, _⟩ := (HL.out.rowI 0 rfl).form (by simp)
    simp only [Value.slice.injEq] at hv1
    obtain ⟨rfl, -, rfl⟩ := hv1
    have y0 := (HL.out.rowI 0 rfl).cell rfl 0 (by simp)
    go_wp2_with fail
    go_ret2
    exact ⟨by rw [HR.out, HE.out]; rfl, HL.out.fr⟩
   ·have h1' : ((p.length : Int) != 1) = true := by rw [bne_iff_ne]; omega
    go_wp2_with fail
    go_ret2
    exact ⟨by rw [HR.out, HE.out, if_neg h1]; rfl, HL.out.fr⟩
end Go.Proofs.YtgpekgnhbccnoaaGreat
