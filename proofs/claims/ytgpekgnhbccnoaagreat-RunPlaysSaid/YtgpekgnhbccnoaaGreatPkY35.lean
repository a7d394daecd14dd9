/-
 Walk of filled: tables with rows.
 No condition but sizes.
-/
import Derived.Test.YtgpekgnhbccnoaaGreatPkY29
import Derived.Test.YtgpekgnhbccnoaaGreatPkY5
import Derived.Test.YtgpekgnhbccnoaaGreatPkY25
import Derived.Test.YtgpekgnhbccnoaaGreatPkY26
import Derived.Test.YtgpekgnhbccnoaaGreatPkY17
namespace Go.Proofs.YtgpekgnhbccnoaaGreat
open Go Go.RowKit
attribute [local go_sem ↓] Go.wp_at_zero Go.wp_at_succ

theorem fints_one (x : Int) : ∀ u ∈ [Value.int .i64 x], u.oneCell' = true := by simp [Value.oneCell']
theorem fone_at (w : World) (e : TypeId) (x : Value) (b : Nat) (hb : w.heap.size = b) : SlAt (w.alloc (.cells #[x] e)) 1 (.slice (some ⟨b, 0, none⟩) 1 1) 1 [x] := by
 subst hb
 have := (SlAt.of_own (World.ownsRow_lit (base := 0) (e := e) (size := 1) w #[x] 1 (Nat.zero_le _) (by decide) rfl)).1
 simpa using this
def rowFill (t k n : Nat) : List Int := (List.range n).map fun (c : Nat) => 10 * (t : Int) + 3 * (k : Int) + (c : Int)
theorem rowFill_len (t k n : Nat) : (rowFill t k n).length = n := by simp [rowFill]
theorem rowFill_succ (t k n : Nat) : rowFill t k (n + 1) = rowFill t k n ++ [10 * (t : Int) + 3 * (k : Int) + (n : Int)] := by simp [rowFill, List.range_succ]
def fillK (n t : Nat) (M : List MTab) : Nat → List MTab
 | 0 => M
 | k + 1 => (mput (fillK n t M k) t k (rowFill t k n)).1
def fillT (TB : List Int) (m : Nat) : Nat → List MTab
 | 0 => newMod TB
 | t + 1 => fillK (TB.getD t 0).toNat t (fillT TB m t) m
def filledM (TB : List Int) (m : Nat) : List MTab := fillT TB m TB.length
structure FillOk (TB : List Int) (N : Nat) (M : List MTab) : Prop where
 good : Good M
 few : Few N M
 cols : colsN M = TB
theorem FillOk.put {TB : List Int} {N : Nat} {M : List MTab} (h : FillOk TB N M) (hN : N < 1000000) (t k : Int) (xs : List Int) : FillOk TB (N + 1) (mput M t k xs).1 := by
 obtain ⟨h1, h2⟩ := good_put h.good h.few hN t k xs
 exact ⟨h1, h2, (colsN_put M t k xs).trans h.cols⟩
theorem fillK_ok {TB : List Int} {N : Nat} {M : List MTab} (h : FillOk TB N M) (n t : Nat) : ∀ k, N + k < 1000000 → FillOk TB (N + k) (fillK n t M k)
 | 0, _ => h
 | k + 1, hk => (fillK_ok h n t k (by omega)).put (by omega) _ _ _
theorem fillT_ok {TB : List Int} (hc : colsOk TB) {m : Nat} (hm : m ≤ 4) : ∀ t, t ≤ 100 → FillOk TB (t * m) (fillT TB m t)
 | 0, _ => by
  have := good_new hc
  exact ⟨this.1, by rw [Nat.zero_mul]; exact this.2, colsN_new hc⟩
 | t + 1, ht => by
  have h1 := fillT_ok hc hm t (by omega)
  have h2 : t * m ≤ 100 * 4 := Nat.mul_le_mul (by omega) hm
  have := fillK_ok h1 (TB.getD t 0).toNat t m (by omega)
  rwa [← Nat.succ_mul] at this
theorem filled_ok {TB : List Int} (hc : colsOk TB) {m : Nat} (hm : m ≤ 4) : FillOk TB (64 * 4) (filledM TB m) := by
 have h := fillT_ok hc hm TB.length (by have := hc.1; omega)
 have h2 : TB.length * m ≤ 64 * 4 := Nat.mul_le_mul hc.1 hm
 exact ⟨h.good, fun T hT => Nat.le_trans (h.few T hT) h2, h.cols⟩
def FilledRet (w0 : World) (l : List Thing) (TB : List Int) (m : Nat) (e : Ending) (W' : World) : Prop :=
 (colsOk TB ∧ ∃ rb qb, e = .returned (.tuple #[rptr rb, rptr qb, .bool true]) ∧ Lies w0 W' (l ++ [rowsT rb (filledM TB m), refM qb (filledM TB m)])) ∨
 (¬ colsOk TB ∧ e = .returned (.tuple #[.pointer none, .pointer none, .bool false]) ∧ Lies w0 W' l)
section
variable {w0 W : World} {l : List Thing}
theorem app_0 {x : Thing} {m : List Thing} : (l ++ x :: m)[l.length]? = some x := by simp
theorem app_1 {x y : Thing} {m : List Thing} : (l ++ x :: y :: m)[l.length + 1]? = some y := by rw [List.getElem?_append_right (by omega), Nat.add_sub_cancel_left]; rfl
theorem app_2 {x y z : Thing} {m : List Thing} : (l ++ x :: y :: z :: m)[l.length + 2]? = some z := by rw [List.getElem?_append_right (by omega), Nat.add_sub_cancel_left]; rfl
theorem set_0 {x x' : Thing} {m : List Thing} : (l ++ x :: m).set l.length x' = l ++ x' :: m := by rw [List.set_append_right _ _ (Nat.le_refl _), Nat.sub_self]; rfl
theorem set_1 {x y y' : Thing} {m : List Thing} : (l ++ x :: y :: m).set (l.length + 1) y' = l ++ x :: y' :: m := by rw [List.set_append_right _ _ (by omega), Nat.add_sub_cancel_left]; rfl
theorem set_2 {x y z z' : Thing} {m : List Thing} : (l ++ x :: y :: z :: m).set (l.length + 2) z' = l ++ x :: y :: z' :: m := by rw [List.set_append_right _ _ (by omega), Nat.add_sub_cancel_left]; rfl
theorem Lies.grewI (h : Lies w0 W l) (i : Nat) {v : Value} {xs : List Int} (hi : l[i]? = some (owI v xs)) {g : Option Addr} {cap : Nat} {W' : World} {y : Int} (h2 : W'.ownsRow 0 2 1 (.slice g (xs.length + 1) cap) (xs.length + 1) (xs.map (Value.int .i64) ++ [.int .i64 y]))
  (h3 : W.grownBy W' v.ownBlock) (h4 : (Value.slice g (xs.length + 1) cap).ownBlock = v.ownBlock ∨ (Value.slice g (xs.length + 1) cap).ownBlock = some W.heap.size) : Lies w0 W' (l.set i (owI (.slice g (xs.length + 1) cap) (xs ++ [y]))) := by
 have e : xs.length + 1 = (xs ++ [y]).length := by simp
 obtain ⟨S, k1, _, k2⟩ := h.get i _ hi
 refine k2 W' (fun k => (Value.slice g (xs.length + 1) cap).ownBlock = some k) _ ⟨by unfold OwnInts; rw [List.map_append, ← e]; exact h2, fun _ => Iff.rfl⟩ (fun k hk => ?_) ((Fr.refl W _).grown h3 fun k hk _ => (k1.2 k).2 hk)
 rcases h4 with e4 | e4
 ·exact .inl ((k1.2 k).2 (by rw [← e4]; exact hk))
 ·rw [e4] at hk; cases hk; exact .inr (Nat.le_refl _)
theorem Lies.ownNe (h : Lies w0 W l) (i j : Nat) {v : Value} {xs : List Int} {qb : Nat} {M : List MTab} (hi : l[i]? = some (owI v xs)) (hj : l[j]? = some (refM qb M)) (hij : i ≠ j) : ∀ k, v.ownBlock = some k → k ≠ qb := by
 obtain ⟨S, T, h1, h2, h3, _⟩ := h.get2 i j _ _ hi hj hij
 intro k hk e
 subst e
 exact h3 k ((h1.2 k).2 hk) (ref_in h2)
set_option maxRecDepth 100000 in
set_option maxHeartbeats 4000000 in
theorem filled_any (h : Lies w0 W l) (tv : Value) (TB : List Int) (ht : IntsAt w0 tv TB) (hTB : TB.length ≤ 100000) (mm m : Nat) (hm : (mm : Int) % 5 = (m : Int)) (hmm : mm < 256) :
  Calls Tryz.prog 11 #[tv, .int .u8 mm] W (FilledRet w0 l TB m) := by
 have hm4 : m ≤ 4 := by omega
 obtain ⟨ta, tc, rfl⟩ := ht.shape
 have HT := Lib.hid ht
 have HL := Lib.hid h
 have HM := Lib.hid hm
 clear ht h hm
 by_cases hc : colsOk TB
 ·have HC := Lib.hid hc
  have hTB64 := hc.1
  clear hc
  go_enter Tryz.func11, Tryz.ntmps11
  go_wp2_with fail
  refine (api_new _ TB _ (HT.out.fr0 HL.out.fr) (by omega)).mono ?_
  rintro e w1 hr
  rcases hr with ⟨_, rb, S, rfl, hr, hS, hf⟩ | ⟨hno, _⟩
  rotate_left
  ·exact absurd HC.out hno
  have HL1 := Lib.hid (HL.out.add (rowsT rb (newMod TB)) (S := S) hr hS hf)
  clear hr hf HL hS
  go_wp2_with fail
  refine (rnew_any _ TB _ (HT.out.fr0 HL1.out.fr) (by omega)).mono ?_
  rintro e w2 hr
  rcases hr with ⟨_, qb, T, rfl, hr, hT, hf⟩ | ⟨hno, _⟩
  rotate_left
  ·exact absurd HC.out hno
  have HL2 : Hid (Lies w0 w2 (l ++ [rowsT rb (newMod TB), refM qb (newMod TB)])) := by
   have h9 := HL1.out.add (refM qb (newMod TB)) (S := T) (by show RefAt _ _ (colsN _) (flatM _) _; rw [colsN_new HC.out, flat_new]; exact hr) hT hf
   rw [List.append_assoc] at h9
   exact Lib.hid h9
  clear hr hf HL1 hT
  go_wp2_with fail
  go_loopw [11] (fun vt wr => ∃ t : Nat, t ≤ TB.length ∧ vt = .int .i64 t ∧ Lies w0 wr (l ++ [rowsT rb (fillT TB m t), refM qb (fillT TB m t)])) (fun vt _ => TB.length - (intOf vt).toNat)
  case atStart => exact ⟨0, by omega, rfl, HL2.out⟩
  case round =>
   clear HL2
   obtain ⟨t, htl, rfl, h⟩ := hrel
   have HL := Lib.hid h
   clear h
   by_cases hlt : t < TB.length
   ·have hx := List.getElem?_eq_getElem hlt
    have hx1 := HC.out.2 _ (List.getElem_mem hlt)
    have HTG : Hid (TB.getD t 0 = TB[t]) := Lib.hid (by rw [List.getD_eq_getElem?_getD, hx]; rfl)
    generalize TB[t] = x at hx hx1 HTG
    obtain ⟨n, rfl⟩ : ∃ n : Nat, x = (n : Int) := ⟨x.toNat, by omega⟩
    have HX := Lib.hid hx
    have hOK := fillT_ok HC.out hm4 t (by omega)
    have h2 : t * m ≤ 64 * 4 := Nat.mul_le_mul (by omega) hm4
    have HFT : Hid (fillT TB m (t + 1) = fillK n t (fillT TB m t) m) := Lib.hid (by show fillK _ _ _ _ = _; rw [HTG.out, Int.toNat_natCast])
    generalize fillT TB m t = M at *
    generalize t * m = N at hOK h2
    have HOK := Lib.hid hOK
    have htt : (t : Int) < (TB.length : Int) := by omega
    clear hOK hx HTG
    go_wp2_with fail
    go_loopw [12] (fun vk wr => ∃ k : Nat, k ≤ m ∧ vk = .int .i64 k ∧ Lies w0 wr (l ++ [rowsT rb (fillK n t M k), refM qb (fillK n t M k)])) (fun vk _ => m - (intOf vk).toNat)
    case atStart => exact ⟨0, by omega, rfl, HL.out⟩
    case round =>
     clear HL
     obtain ⟨k, hkm, rfl, h⟩ := hrel
     have HL := Lib.hid h
     clear h
     by_cases hlk : k < m
     ·have hkk : (k : Int) < (mm : Int) % 5 := by have := HM.out; omega
      have hOK := fillK_ok HOK.out n t k (by omega)
      have HFK : Hid (fillK n t M (k + 1) = (mput (fillK n t M k) t k (rowFill t k n)).1) := Lib.hid rfl
      generalize fillK n t M k = M1 at *
      have HOK1 := Lib.hid hOK
      have HL0 : Hid (Lies w0 wr (l ++ [rowsT rb M1, refM qb M1, owI (.slice none 0 0) (rowFill t k 0)])) := by
       have h9 := HL.out.nilI
       rw [List.append_assoc] at h9
       exact Lib.hid h9
      clear hOK HL
      go_wp2_with fail
      go_loopw [13, 14] (fun vl vc wr => ∃ (c : Nat) (a : Option Addr) (cap : Nat), c ≤ n ∧ vc = .int .i64 c ∧ vl = .slice a c cap ∧ Lies w0 wr (l ++ [rowsT rb M1, refM qb M1, owI (.slice a c cap) (rowFill t k c)])) (fun _ vc _ => n - (intOf vc).toNat)
      case atStart => exact ⟨0, none, 0, by omega, rfl, rfl, HL0.out⟩
      case round =>
       clear HL0
       obtain ⟨c, a, cap, hcn, rfl, rfl, h⟩ := hrel
       have HL := Lib.hid h
       obtain ⟨tb, toff, tcap, htv, htc⟩ := (HT.out.fr0 h.fr).form (by omega)
       simp only [Value.slice.injEq, true_and] at htv
       obtain ⟨rfl, rfl⟩ := htv
       have q0 := htc t _ HX.out
       clear h htc
       by_cases hlc : c < n
       ·have hcc : (c : Int) < (n : Int) := by omega
        have HLx := Lib.hid (HL.out.fr0 ((Fr.refl wr Nil).alloc (.cells #[.int .i64 (10 * (t : Int) + 3 * (k : Int) + (c : Int))] 2)))
        have HOx := Lib.hid (HLx.out.rowI (l.length + 2) app_2)
        unfold OwnInts at HOx
        rw [rowFill_len] at HOx
        go_wp2_with (at_builtin; refine wpList_app _ rfl _ _ 24 rfl Tryz.sltRun (.slice a c cap) rfl HOx.out _ rfl (fone_at _ _ _ _ (by simp)) (fints_one _) (by omega) ?_)
        rintro g cap2 w6 h2 h3 h4
        have h9 := HLx.out.grewI (l.length + 2) app_2 (by rw [rowFill_len]; exact h2) h3 (by rw [rowFill_len, World.size_alloc]; exact h4)
        rw [set_2, rowFill_len, ← rowFill_succ] at h9
        have HL6 := Lib.hid h9
        clear h2 h3 h4 h9 q0
        go_wp2_with fail
        go_roundw
        case rel => exact ⟨c + 1, g, cap2, by omega, by go_num, rfl, HL6.out⟩
        case measure => simp [intOf]; omega
       ·obtain rfl : c = n := by omega
        have HOI := Lib.hid (HL.out.rowI (l.length + 2) app_2).at
        go_wp2_with fail
        refine (st_put HL.out l.length app_0 (t : Int) (k : Int) _ (rowFill t k c) HOK1.out.good HOI.out (by rw [rowFill_len]; omega)).mono ?_
        rintro e w7 ⟨rfl, h⟩
        rw [set_0] at h
        have HL7 := Lib.hid h
        have HOI7 := Lib.hid (h.rowI (l.length + 2) app_2).at
        clear h HL HOI q0
        go_wp2_with fail
        refine (st_qput HL7.out (l.length + 1) app_1 (t : Int) (k : Int) _ (rowFill t k c) HOK1.out.good HOK1.out.few (by omega) HOI7.out (HL7.out.ownNe (l.length + 2) (l.length + 1) app_2 app_1 (by omega)) (by rw [rowFill_len]; omega)).mono ?_
        rintro e w8 ⟨rfl, h⟩
        rw [set_1, ← HFK.out] at h
        have h9 := h.take (l.length + 2)
        rw [List.take_append, List.take_of_length_le (by omega), Nat.add_sub_cancel_left] at h9
        have HL8 := Lib.hid h9
        clear h h9 HL7 HOI7
        go_wp2_with fail
        go_roundw
        case rel => exact ⟨k + 1, by omega, by go_num, HL8.out⟩
        case measure => simp [intOf]; omega
     ·obtain rfl : k = m := by omega
      have hkk : ¬ (k : Int) < (mm : Int) % 5 := by have := HM.out; omega
      go_wp2_with fail
      go_roundw
      case rel => exact ⟨t + 1, by omega, by go_num, by rw [HFT.out]; exact HL.out⟩
      case measure => simp [intOf]; omega
   ·obtain rfl : t = TB.length := by omega
    go_wp2_with fail
    refine bodyPost_ret (by simp [results, Tryz.results11, go_sem]; try rfl) rfl ?_
    exact .inl ⟨HC.out, rb, qb, rfl, HL.out⟩
 ·have HC := Lib.hid hc
  clear hc
  go_enter Tryz.func11, Tryz.ntmps11
  go_wp2_with fail
  refine (api_new _ TB _ (HT.out.fr0 HL.out.fr) (by omega)).mono ?_
  rintro e w1 hr
  rcases hr with ⟨hno, _⟩ | ⟨_, rfl, hf⟩
  ·exact absurd hno HC.out
  have HL1 := Lib.hid (HL.out.fr0 hf)
  clear hf HL
  go_wp2_with fail
  refine (rnew_any _ TB _ (HT.out.fr0 HL1.out.fr) (by omega)).mono ?_
  rintro e w2 hr
  rcases hr with ⟨hno, _⟩ | ⟨_, rfl, hf⟩
  ·exact absurd hno HC.out
  have HL2 := Lib.hid (HL1.out.fr0 hf)
  clear hf HL1
  go_wp2_with fail
  refine bodyPost_ret (by simp [results, Tryz.results11, go_sem]; try rfl) rfl ?_
  exact .inr ⟨HC.out, rfl, HL2.out⟩
end
end Go.Proofs.YtgpekgnhbccnoaaGreat
