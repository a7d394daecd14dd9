/-
 Walks of the pile's push and pop.
 No condition but sizes.
 Walks of takes, Eval.
 No condition but sizes.
-/
import Derived.Test.YtgpekgnhbccnoaaGreatPkY5
import Derived.ProofKit
namespace Go.Proofs.YtgpekgnhbccnoaaGreat
open Go Go.RowKit

theorem Tryz.sltPile : SlT Tryz.prog 195 2 1 8 := SlT.mk (z := .int .i64 0) Tryz.underlying195 (by kernel_rfl) (by rfl) (by decide) (by decide)
theorem slone (w : World) (e : TypeId) (y : Int) : SlAt (w.alloc (.cells #[.int .i64 y] e)) 1 (.slice (some ⟨w.heap.size, 0, none⟩) 1 1) 1 [.int .i64 y] := by
 have hb := Bk.new w e #[.int .i64 y]
 refine ⟨rfl, .inr ⟨⟨w.heap.size, 0, none⟩, 1, rfl, fun k u hu => ?_⟩⟩
 rw [Addr.add_lit, Nat.zero_add, hb.cell k]
 exact hu
theorem own_snocI {w : World} {e : TypeId} {v : Value} {xs : List Int} {y : Int} (h : w.ownsRow 0 e 1 v (xs.length + 1) (xs.map (Value.int .i64) ++ [.int .i64 y])) : OwnInts w e v (xs ++ [y]) := by
 have e1 : xs.length + 1 = (xs ++ [y]).length := by simp
 unfold OwnInts
 rw [List.map_append, ← e1]
 exact h
set_option maxRecDepth 100000 in
set_option maxHeartbeats 1000000 in
theorem push_any {w0 W : World} {l : List Thing} {pb : Nat} {xs : List Int} (h : Lies w0 W l) (i : Nat) (hi : l[i]? = some (pileT pb xs)) (y : Int) (hl : xs.length ≤ 100000) :
  Calls Tryz.prog 118 #[.pointer (some ⟨pb, 0, none⟩), .int .i64 y] W fun e W' => e = .returned (.tuple #[]) ∧ Lies w0 W' (l.set i (pileT pb (xs ++ [y]))) := by
 obtain ⟨a, cap, hp, hk, -⟩ := h.pile i hi
 have HP := Lib.hid hp
 have HK := Lib.hid hk
 have p0 := hp.box.cell 0
 have hne := hp.ne
 clear hp hk h hi
 go_enter Tryz.func118, Tryz.ntmps118
 go_wp2_with (at_builtin; refine wpList_app _ rfl _ _ 195 rfl Tryz.sltPile _ rfl (World.ownsRow.alloc HP.out.own _) _ rfl (slone W _ y) (by simp [Value.oneCell']) (by omega) ?_; intro g cap2 W1 ho hg hat; have hfr := ((Fr.refl W (fun k => (Value.slice a xs.length cap).ownBlock = some k)).alloc (.cells #[.int .i64 y] 2)).grown hg (fun k hk _ => hk); have q0 := (HP.out.box.fr hfr hne).cell 0; have q1 := (HP.out.box.fr hfr hne).free 0; have HE := Lib.hid (HK.out y g cap2 W1 (own_snocI ho) hfr (hat.imp id fun e k hk => by rw [e] at hk; cases hk; simp)); clear ho hg hat hfr)
 go_end0
 exact ⟨rfl, HE.out⟩
set_option maxRecDepth 100000 in
set_option maxHeartbeats 1000000 in
theorem pop_any {w0 W : World} {l : List Thing} {pb : Nat} {xs : List Int} (h : Lies w0 W l) (i : Nat) (hi : l[i]? = some (pileT pb xs)) (h0 : 0 < xs.length) (hl : xs.length ≤ 100000) :
  Calls Tryz.prog 117 #[.pointer (some ⟨pb, 0, none⟩)] W fun e W' => e = .returned (.int .i64 (xs.getD (xs.length - 1) 0)) ∧ Lies w0 W' (l.set i (pileT pb (xs.take (xs.length - 1)))) := by
 obtain ⟨a, cap, hp, -, hk⟩ := h.pile i hi
 obtain ⟨b, cap', he, hcap⟩ := hp.own.form h0
 simp only [Value.slice.injEq, true_and] at he
 obtain ⟨rfl, rfl⟩ := he
 obtain ⟨n, hn⟩ : ∃ n, xs.length = n + 1 := ⟨xs.length - 1, by omega⟩
 have c0 := hp.own.cell rfl n (by omega)
 have HK := Lib.hid (hk n (by omega))
 have p0 := hp.box.cell 0
 have p1 := hp.box.free 0
 have e1 : xs.length - 1 = n := by omega
 have e2 : xs.getD n 0 = xs[n]'(by omega) := by rw [List.getD_eq_getElem?_getD, List.getElem?_eq_getElem (by omega)]; rfl
 rw [e1, e2]
 rw [hn] at p0 hcap
 clear hk hp h hi e1 e2
 go_enter Tryz.func117, Tryz.ntmps117
 go_wp2_with fail
 go_ret
 exact ⟨rfl, HK.out⟩
end Go.Proofs.YtgpekgnhbccnoaaGreat
namespace Go.Proofs.YtgpekgnhbccnoaaGreat
open Go Go.RowKit

def takesP (k : Int) : Nat := if k = 3 ∨ k = 4 ∨ k = 5 then 2 else if k = 6 then 1 else 0
set_option maxRecDepth 100000 in
set_option maxHeartbeats 400000 in
theorem takes_any (k : Int) (w : World) : Calls Tryz.prog 116 #[.int .u8 k] w fun e w' => e = .returned (.int .i64 (takesP k)) ∧ w = w' := by
 by_cases h3 : k = 3
 ·subst h3
  go_enter Tryz.func116, Tryz.ntmps116
  go_wp2_with fail
  go_ret
  exact ⟨rfl, rfl⟩
 by_cases h4 : k = 4
 ·subst h4
  go_enter Tryz.func116, Tryz.ntmps116
  go_wp2_with fail
  go_ret
  exact ⟨rfl, rfl⟩
 by_cases h5 : k = 5
 ·subst h5
  go_enter Tryz.func116, Tryz.ntmps116
  go_wp2_with fail
  go_ret
  exact ⟨rfl, rfl⟩
 by_cases h6 : k = 6
 ·subst h6
  go_enter Tryz.func116, Tryz.ntmps116
  go_wp2_with fail
  go_ret
  exact ⟨rfl, rfl⟩
 have HT : Hid (takesP k = 0) := by
  have : takesP k = 0 := by unfold takesP; rw [if_neg (by omega), if_neg h6]
  exact this
 go_enter Tryz.func116, Tryz.ntmps116
 go_wp2_with fail
 go_ret
 exact ⟨by rw [HT.out]; rfl, rfl⟩
theorem takes_of (k n : Int) (w : World) (h : (takesP k : Int) = n) : Calls Tryz.prog 116 #[.int .u8 k] w fun e w' => e = .returned (.int .i64 n) ∧ w = w' := by
 subst h
 exact takes_any k w
theorem pop_snoc {w0 W : World} {l : List Thing} {pb : Nat} {q : List Int} {y : Int} (h : Lies w0 W l) (i : Nat) (hi : l[i]? = some (pileT pb (q ++ [y]))) (hl : q.length ≤ 99999) :
  Calls Tryz.prog 117 #[.pointer (some ⟨pb, 0, none⟩)] W fun e W' => e = .returned (.int .i64 y) ∧ Lies w0 W' (l.set i (pileT pb q)) := by
 refine (pop_any h i hi (by simp) (by simp; omega)).mono fun e W' ⟨he, h⟩ => ?_
 simp at he h
 exact ⟨he, h⟩
theorem snoc_one {p : List Int} (h : 1 ≤ p.length) : ∃ q y, p = q ++ [y] := ⟨p.dropLast, p.getLast (by intro e; rw [e] at h; simp at h), (List.dropLast_concat_getLast _).symm⟩
theorem snoc_two {p : List Int} (h : 2 ≤ p.length) : ∃ q x y, p = q ++ [x] ++ [y] := by
 obtain ⟨q, y, rfl⟩ := snoc_one (p := p) (by omega)
 obtain ⟨r, x, rfl⟩ := snoc_one (p := q) (by simp at h; omega)
 exact ⟨r, x, y, rfl⟩
theorem step_neg (vars q : List Int) (n v y : Int) : stepP vars ⟨6, n, v⟩ (q ++ [y]) = some (q ++ [wrap64 (-y)]) := by
 unfold stepP
 simp
theorem step_add (vars q : List Int) (n v x y : Int) : stepP vars ⟨3, n, v⟩ (q ++ [x] ++ [y]) = some (q ++ [wrap64 (x + y)]) := by
 unfold stepP
 simp
theorem step_sub (vars q : List Int) (n v x y : Int) : stepP vars ⟨4, n, v⟩ (q ++ [x] ++ [y]) = some (q ++ [wrap64 (x - y)]) := by
 unfold stepP
 simp
theorem step_mul (vars q : List Int) (n v x y : Int) : stepP vars ⟨5, n, v⟩ (q ++ [x] ++ [y]) = some (q ++ [wrap64 (x * y)]) := by
 unfold stepP
 simp
set_option maxRecDepth 100000 in
set_option maxHeartbeats 4000000 in
theorem eval_any (tv vv : Value) (L : List TermD) (vars : List Int) (w : World) (ht : TermsAt w tv L) (hv : IntsAt w vv vars) (hl : L.length ≤ 100000) (hvl : vars.length ≤ 1000000) :
  Calls Tryz.prog 89 #[tv, vv] w fun e w' => e = .returned (.tuple #[.int .i64 (evalP vars L).1, .bool (evalP vars L).2]) ∧ Fr w w' Nil := by
 obtain ⟨ta, tc, rfl⟩ := ht.shape
 obtain ⟨va, vc, rfl⟩ := hv.shape
 have HT := Lib.hid ht
 have HV := Lib.hid hv
 have HL0 := Lib.hid (Lies.newPile (Lies.nil (Fr.refl w Nil)))
 clear ht hv
 go_enter Tryz.func89, Tryz.ntmps89
 go_wp2_with fail
 go_loopw [14] (fun vi wr => ∃ (i : Nat) (p : List Int), i ≤ L.length ∧ vi = .int .i64 i ∧ p.length ≤ i ∧ evalS vars (L.drop i) p = evalS vars L [] ∧ Lies w wr [pileT w.heap.size p]) (fun vi _ => L.length - (intOf vi).toNat)
 case atStart => exact ⟨0, [], by omega, rfl, by simp, rfl, HL0.out⟩
 case round =>
  clear HL0
  obtain ⟨i, p, hi, rfl, hp, hev, h⟩ := hrel
  have HL := Lib.hid h
  have HE := Lib.hid hev
  clear h hev
  by_cases hlt : i < L.length
  ·obtain ⟨tb, toff, tcap2, htv, htc⟩ := (HT.out.fr0 HL.out.fr).form (by omega)
   simp only [Value.slice.injEq, true_and] at htv
   obtain ⟨rfl, rfl⟩ := htv
   have hgt := List.getElem?_eq_getElem hlt
   generalize L[i] = t at hgt
   obtain ⟨c0, c1, c2⟩ := htc i t hgt
   obtain ⟨hr1, hr2⟩ := evalS_round HE.out hgt
   have HR1 := Lib.hid hr1
   have HR2 := Lib.hid hr2
   clear htc hr1 hr2 hgt
   obtain ⟨k, tn, tvr⟩ := t
   simp only at c0 c1 c2
   have HLx := Lib.hid (HL.out.newBk 84 #[.int .u8 k, .int .i64 tn, .int .i64 tvr])
   obtain ⟨a, cap, hpa, -, -⟩ := HLx.out.pile 0 rfl
   have p0 := hpa.box.cell 0
   simp only [List.getElem?_cons_zero] at p0
   clear hpa
   have hii : (i : Int) < (L.length : Int) := by omega
   by_cases k1 : k = 1
   ·subst k1
    go_wp2_with fail
    refine (takes_of 1 0 _ rfl).mono ?_
    rintro e w2 ⟨rfl, rfl⟩
    go_wp2_with fail
    refine (push_any HLx.out 0 rfl tn (by omega)).mono ?_
    rintro e w2 ⟨rfl, h⟩
    have HL2 := Lib.hid h
    clear h HLx
    go_wp2_with fail
    go_roundw
    case rel => exact ⟨i + 1, p ++ [tn], by omega, by go_num, by simp; omega, HR1.out _ rfl, HL2.out.take 1⟩
    case measure => simp [intOf]; omega
   by_cases k2 : k = 2
   ·subst k2
    clear k1
    by_cases hv0 : tvr < 0
    ·have HN := Lib.hid (HR2.out (by unfold stepP; simp; omega))
     clear HR1 HR2 HE
     go_wp2_with fail
     refine (takes_of _ 0 _ rfl).mono ?_
     rintro e w2 ⟨rfl, rfl⟩
     go_wp2_with fail
     go_ret2
     exact ⟨by rw [evalP_none HN.out]; rfl, HLx.out.fr⟩
    by_cases hv1 : tvr < (vars.length : Int)
    ·obtain ⟨m, rfl⟩ : ∃ m : Nat, tvr = (m : Int) := ⟨tvr.toNat, by omega⟩
     have hm : m < vars.length := by omega
     obtain ⟨vb, voff, vcap2, hvv, hvc⟩ := (HV.out.fr HLx.out.fr fun _ _ h => h).form (by omega)
     simp only [Value.slice.injEq, true_and] at hvv
     obtain ⟨rfl, rfl⟩ := hvv
     have hgv := List.getElem?_eq_getElem hm
     have HG : Hid (vars.getD m 0 = vars[m]) := by
      have : vars.getD m 0 = vars[m] := by rw [List.getD_eq_getElem?_getD, hgv]; rfl
      exact this
     have v0 := hvc m _ hgv
     generalize vars[m] = x at v0 HG
     have HS := Lib.hid (HR1.out (p ++ [x]) (by unfold stepP; simp; exact ⟨hm, by rw [← HG.out]; simp [List.getD_eq_getElem?_getD]⟩))
     clear hvc hgv HG HR1 HR2 HE
     go_wp2_with fail
     refine (takes_of _ 0 _ rfl).mono ?_
     rintro e w2 ⟨rfl, rfl⟩
     go_wp2_with fail
     refine (push_any HLx.out 0 rfl x (by omega)).mono ?_
     rintro e w2 ⟨rfl, h⟩
     have HL2 := Lib.hid h
     clear h HLx
     go_wp2_with fail
     go_roundw
     case rel => exact ⟨i + 1, p ++ [x], by omega, by go_num, by simp; omega, HS.out, HL2.out.take 1⟩
     case measure => simp [intOf]; omega
    ·have HN := Lib.hid (HR2.out (by unfold stepP; simp; omega))
     clear HR1 HR2 HE
     go_wp2_with fail
     refine (takes_of _ 0 _ rfl).mono ?_
     rintro e w2 ⟨rfl, rfl⟩
     go_wp2_with fail
     go_ret2
     exact ⟨by rw [evalP_none HN.out]; rfl, HLx.out.fr⟩
   by_cases k6 : k = 6
   ·subst k6
    clear k1 k2
    by_cases hn : p.length < 1
    ·have HN := Lib.hid (HR2.out (by unfold stepP; rw [if_neg (by simp), if_neg (by simp), if_pos rfl, if_neg (by omega)]))
     have hn' : (p.length : Int) < 1 := by omega
     clear HR1 HR2 HE
     go_wp2_with fail
     refine (takes_of _ 1 _ rfl).mono ?_
     rintro e w2 ⟨rfl, rfl⟩
     go_wp2_with fail
     go_ret2
     exact ⟨by rw [evalP_none HN.out]; rfl, HLx.out.fr⟩
    ·have hn' : ¬ (p.length : Int) < 1 := by omega
     obtain ⟨q, y, hq⟩ := snoc_one (p := p) (by omega)
     have HQ := Lib.hid hq
     have hql : q.length + 1 ≤ i := by rw [hq] at hp; simpa using hp
     have HS := Lib.hid (HR1.out _ (by rw [hq]; exact step_neg vars q tn tvr y))
     clear HR1 HR2 HE hq
     go_wp2_with fail
     refine (takes_of _ 1 _ rfl).mono ?_
     rintro e w2 ⟨rfl, rfl⟩
     go_wp2_with fail
     have HLy := HLx
     rw [HQ.out] at HLy
     refine (pop_snoc HLy.out 0 rfl (by omega)).mono ?_
     rintro e w3 ⟨rfl, h⟩
     have HL3 := Lib.hid h
     have z0 := (HL3.out.bk 1 rfl).cell 0
     simp only [List.getElem?_cons_zero] at z0
     clear h HLx HLy p0
     go_wp2_with fail
     refine (push_any HL3.out 0 rfl _ (by omega)).mono ?_
     rintro e w2 ⟨rfl, h⟩
     have HL2 := Lib.hid h
     clear h HL3
     go_wp2_with fail
     go_roundw
     case rel => exact ⟨i + 1, q ++ [wrap64 (-y)], by omega, by go_num, by simp; omega, HS.out, HL2.out.take 1⟩
     case measure => simp [intOf]; omega
   by_cases k3 : k = 3
   ·subst k3
    clear k1 k2 k6
    by_cases hn : p.length < 2
    ·have HN := Lib.hid (HR2.out (by unfold stepP; rw [if_neg (by simp), if_neg (by simp), if_neg (by simp), if_pos rfl, if_neg (by omega)]))
     have hn' : (p.length : Int) < 2 := by omega
     clear HR1 HR2 HE
     go_wp2_with fail
     refine (takes_of _ 2 _ rfl).mono ?_
     rintro e w2 ⟨rfl, rfl⟩
     go_wp2_with fail
     go_ret2
     exact ⟨by rw [evalP_none HN.out]; rfl, HLx.out.fr⟩
    ·have hn' : ¬ (p.length : Int) < 2 := by omega
     obtain ⟨q, x, y, hq⟩ := snoc_two (p := p) (by omega)
     have HQ := Lib.hid hq
     have hql : q.length + 2 ≤ i := by rw [hq] at hp; simpa using hp
     have HS := Lib.hid (HR1.out _ (by rw [hq]; exact step_add vars q tn tvr x y))
     clear HR1 HR2 HE hq
     go_wp2_with fail
     refine (takes_of _ 2 _ rfl).mono ?_
     rintro e w2 ⟨rfl, rfl⟩
     go_wp2_with fail
     have HLy := HLx
     rw [HQ.out] at HLy
     refine (pop_snoc HLy.out 0 rfl (by simp; omega)).mono ?_
     rintro e w3 ⟨rfl, h⟩
     have HL3 := Lib.hid h
     have z0 := (HL3.out.bk 1 rfl).cell 0
     simp only [List.getElem?_cons_zero] at z0
     clear h HLx HLy p0
     go_wp2_with fail
     refine (pop_snoc HL3.out 0 rfl (by omega)).mono ?_
     rintro e w4 ⟨rfl, h⟩
     have HL4 := Lib.hid h
     have z0 := (HL4.out.bk 1 rfl).cell 0
     simp only [List.getElem?_cons_zero] at z0
     clear h HL3
     go_wp2_with fail
     refine (push_any HL4.out 0 rfl (wrap64 (x + y)) (by omega)).mono ?_
     rintro e w2 ⟨rfl, h⟩
     have HL2 := Lib.hid h
     clear h HL4
     go_wp2_with fail
     go_roundw
     case rel => exact ⟨i + 1, q ++ [wrap64 (x + y)], by omega, by go_num, by simp; omega, HS.out, HL2.out.take 1⟩
     case measure => simp [intOf]; omega
   by_cases k4 : k = 4
   ·subst k4
    clear k1 k2 k6 k3
    by_cases hn : p.length < 2
    ·have HN := Lib.hid (HR2.out (by unfold stepP; rw [if_neg (by simp), if_neg (by simp), if_neg (by simp), if_neg (by simp), if_pos rfl, if_neg (by omega)]))
     have hn' : (p.length : Int) < 2 := by omega
     clear HR1 HR2 HE
     go_wp2_with fail
     refine (takes_of _ 2 _ rfl).mono ?_
     rintro e w2 ⟨rfl, rfl⟩
     go_wp2_with fail
     go_ret2
     exact ⟨by rw [evalP_none HN.out]; rfl, HLx.out.fr⟩
    ·have hn' : ¬ (p.length : Int) < 2 := by omega
     obtain ⟨q, x, y, hq⟩ := snoc_two (p := p) (by omega)
     have HQ := Lib.hid hq
     have hql : q.length + 2 ≤ i := by rw [hq] at hp; simpa using hp
     have HS := Lib.hid (HR1.out _ (by rw [hq]; exact step_sub vars q tn tvr x y))
     clear HR1 HR2 HE hq
     go_wp2_with fail
     refine (takes_of _ 2 _ rfl).mono ?_
     rintro e w2 ⟨rfl, rfl⟩
     go_wp2_with fail
     have HLy := HLx
     rw [HQ.out] at HLy
     refine (pop_snoc HLy.out 0 rfl (by simp; omega)).mono ?_
     rintro e w3 ⟨rfl, h⟩
     have HL3 := Lib.hid h
     have z0 := (HL3.out.bk 1 rfl).cell 0
     simp only [List.getElem?_cons_zero] at z0
     clear h HLx HLy p0
     go_wp2_with fail
     refine (pop_snoc HL3.out 0 rfl (by omega)).mono ?_
     rintro e w4 ⟨rfl, h⟩
     have HL4 := Lib.hid h
     have z0 := (HL4.out.bk 1 rfl).cell 0
     simp only [List.getElem?_cons_zero] at z0
     clear h HL3
     go_wp2_with fail
     refine (push_any HL4.out 0 rfl (wrap64 (x - y)) (by omega)).mono ?_
     rintro e w2 ⟨rfl, h⟩
     have HL2 := Lib.hid h
     clear h HL4
     go_wp2_with fail
     go_roundw
     case rel => exact ⟨i + 1, q ++ [wrap64 (x - y)], by omega, by go_num, by simp; omega, HS.out, HL2.out.take 1⟩
     case measure => simp [intOf]; omega
   by_cases k5 : k = 5
   ·subst k5
    clear k1 k2 k6 k3 k4
    by_cases hn : p.length < 2
    ·have HN := Lib.hid (HR2.out (by unfold stepP; rw [if_neg (by simp), if_neg (by simp), if_neg (by simp), if_neg (by simp), if_neg (by simp), if_pos rfl, if_neg (by omega)]))
     have hn' : (p.length : Int) < 2 := by omega
     clear HR1 HR2 HE
     go_wp2_with fail
     refine (takes_of _ 2 _ rfl).mono ?_
     rintro e w2 ⟨rfl, rfl⟩
     go_wp2_with fail
     go_ret2
     exact ⟨by rw [evalP_none HN.out]; rfl, HLx.out.fr⟩
    ·have hn' : ¬ (p.length : Int) < 2 := by omega
     obtain ⟨q, x, y, hq⟩ := snoc_two (p := p) (by omega)
     have HQ := Lib.hid hq
     have hql : q.length + 2 ≤ i := by rw [hq] at hp; simpa using hp
     have HS := Lib.hid (HR1.out _ (by rw [hq]; exact step_mul vars q tn tvr x y))
     clear HR1 HR2 HE hq
     go_wp2_with fail
     refine (takes_of _ 2 _ rfl).mono ?_
     rintro e w2 ⟨rfl, rfl⟩
     go_wp2_with fail
     have HLy := HLx
     rw [HQ.out] at HLy
     refine (pop_snoc HLy.out 0 rfl (by simp; omega)).mono ?_
     rintro e w3 ⟨rfl, h⟩
     have HL3 := Lib.hid h
     have z0 := (HL3.out.bk 1 rfl).cell 0
     simp only [List.getElem?_cons_zero] at z0
     clear h HLx HLy p0
     go_wp2_with fail
     refine (pop_snoc HL3.out 0 rfl (by omega)).mono ?_
     rintro e w4 ⟨rfl, h⟩
     have HL4 := Lib.hid h
     have z0 := (HL4.out.bk 1 rfl).cell 0
     simp only [List.getElem?_cons_zero] at z0
     clear h HL3
     go_wp2_with fail
     refine (push_any HL4.out 0 rfl (wrap64 (x * y)) (by omega)).mono ?_
     rintro e w2 ⟨rfl, h⟩
     have HL2 := Lib.hid h
     clear h HL4
     go_wp2_with fail
     go_roundw
     case rel => exact ⟨i + 1, q ++ [wrap64 (x * y)], by omega, by go_num, by simp; omega, HS.out, HL2.out.take 1⟩
     case measure => simp [intOf]; omega
   have HN := Lib.hid (HR2.out (by unfold stepP; simp [k1, k2, k3, k4, k5, k6]))
   clear HR1 HR2 HE
   go_wp2_with fail
   refine (takes_of _ 0 _ (by unfold takesP; rw [if_neg (by omega), if_neg k6]; rfl)).mono ?_
   rintro e w2 ⟨rfl, rfl⟩
   go_wp2_with fail
   go_ret2
   exact ⟨by rw [evalP_none HN.out]; rfl, HLx.out.fr⟩
  ·obtain ⟨a, cap, hpa, -, -⟩ := HL.out.pile 0 rfl
   have p0 := hpa.box.cell 0
   simp only [List.getElem?_cons_zero] at p0
   clear hpa
   have hii : ¬ (i : Int) < (L.length : Int) := by omega
   have HP := Lib.hid (evalP_end HE.out (by omega))
   by_cases h1 : p.length = 1
   ·obtain ⟨x, rfl⟩ : ∃ x, p = [x] := by
     match p, h1 with
     | [x], _ => exact ⟨x, rfl⟩
    clear HE h1
    go_wp2_with fail
    refine (pop_snoc (q := []) HL.out 0 rfl (by simp)).mono ?_
    rintro e w3 ⟨rfl, h⟩
    have HL3 := Lib.hid h
    clear h HL p0
    go_wp2_with fail
    go_ret2
    exact ⟨by rw [HP.out]; rfl, HL3.out.fr⟩
   ·have hne : ((p.length : Int) != 1) = true := by rw [bne_iff_ne]; omega
    have HF : Hid (evalP vars L = (0, false)) := by
     have : evalP vars L = (0, false) := by rw [HP.out, if_neg h1]
     exact this
    clear HE h1 HP
    go_wp2_with fail
    go_ret2
    exact ⟨by rw [HF.out]; rfl, HL.out.fr⟩
end Go.Proofs.YtgpekgnhbccnoaaGreat
