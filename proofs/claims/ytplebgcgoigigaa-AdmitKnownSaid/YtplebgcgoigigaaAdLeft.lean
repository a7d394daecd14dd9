/-
  Walks of Need.may, of what is left of something, of Room, Of.
  No condition but sizes.
-/
import Derived.Handy
import Derived.Deep.RegionHeld3
import Derived.Test.YtplebgcgoigigaaAdMem
namespace Go.Proofs.Ytplebgcgoigigaa
open Go Go.RowKit Go.Maps

theorem Try.keyI64 : Keyed Try.prog 2 := int_keyed Try.underlying2
abbrev ikey : Int → Lit := fun a => .int .i64 a
abbrev ival : Int → Value := fun a => .int .i64 a
theorem Try.invI64 : ∀ v kl, keyOf Try.prog 2 v = some kl → ∃ x : Int, v = ival x ∧ kl = ikey x := fun v kl h => by
  obtain ⟨x, rfl, rfl, _⟩ := keyOf_int_inv Try.underlying2 h
  exact ⟨x, rfl, rfl⟩
abbrev GMap (w : World) (b : Nat) (M : List (Int × Nd)) : Prop := MapAt Try.prog 2 ikey encN w b M
abbrev zeroN : Nd := ⟨0, false, 0, 0⟩
theorem zeroNeed (w : World) : (zeroValue 27).run Try.prog w = .ok (encN zeroN) w := by kernel_rfl

def sumP (p : Nd → Int) : List (Int × Nd) → Int
  | [] => 0
  | x :: l => p x.2 + sumP p l
theorem sumP_app (p : Nd → Int) (A B : List (Int × Nd)) : sumP p (A ++ B) = sumP p A + sumP p B := by
  induction A with
  | nil => simp [sumP]
  | cons a A ih => simp only [List.cons_append, sumP, ih]; omega
theorem sumP_mid (p : Nd → Int) (A B : List (Int × Nd)) (x : Int) (c : Nd) : sumP p (A ++ (x, c) :: B) = sumP p (A ++ B) + p c := by
  rw [sumP_app, sumP_app, sumP]; show sumP p A + (p c + sumP p B) = _; omega
theorem sumP_perm (p : Nd → Int) {A B : List (Int × Nd)} (h : A.Perm B) : sumP p A = sumP p B := by
  induction h with
  | nil => rfl
  | cons x _ ih => simp only [sumP, ih]
  | swap x y l => simp only [sumP]; omega
  | trans _ _ h1 h2 => rw [h1, h2]

set_option maxRecDepth 100000 in
set_option maxHeartbeats 1000000 in
theorem left_any (p : Nd → Int) (fid : Nat) (he : ∀ args w, (callFunc fid args).run Try.prog w = .ok (.enter fid args) w) (hp : ∀ (c : Nd) (w : World), Calls Try.prog fid #[encN c] w fun e w' => e = .returned (.int .i64 (p c)) ∧ Fr w w' Nil)
    (all : Int) (b : Nat) (M : List (Int × Nd)) (w : World) (h : GMap w b M) (hall : wrap64 all = all) :
    Calls Try.prog 29 #[.int .i64 all, .map (some b), .func (.func fid) #[] #[]] w fun e w' => e = .returned (.int .i64 (wrap64 (all - sumP p M))) ∧ Fr w w' Nil := by
  have H := Lib.hid h
  have HA := Lib.hid hall
  have hbl := h.lt
  clear h hall
  go_enter Try.func29, Try.ntmps29
  go_wp2_with (at_range; refine wpList_map_range _ rfl _ 54 rfl 2 27 Try.keyI64 Try.underlying54 intKey b M rfl H.out ?_; intro w0 hr0 hf0 hs0)
  have Hr0 := Lib.hid hr0
  have Hf0 := Lib.hid hf0
  clear hr0 hf0 hs0
  go_frame
  go_loopw [0, 8] (fun va _ wr => ∃ L, va = .int .i64 (wrap64 (all - sumP p M + sumP p L)) ∧ RangeAt Try.prog 2 ikey encN wr b w.heap.size M L ∧ Fr w wr Nil) (fun _ _ wr => wr.rangeLeft b w.heap.size)
  case atStart => exact ⟨M, by rw [show all - sumP p M + sumP p M = all by omega, HA.out], Hr0.out, Hf0.out⟩
  case round =>
    clear Hr0 Hf0
    obtain ⟨L, rfl, hr, hf⟩ := hrel
    have Hr := Lib.hid hr
    have Hf := Lib.hid hf
    clear hr hf
    generalize hs : all - sumP p M + sumP p L = s
    have HS := Lib.hid hs
    clear hs
    go_wp2_with (at_next; refine wpList_map_next _ rfl _ rfl 2 Try.keyI64 intKey ival Try.invI64 b w.heap.size M L rfl Hr.out ?_ ?_)
    · intro hL
      have HL := Lib.hid hL
      clear hL
      go_wp2_with fail
      go_ret
      refine ⟨congrArg (fun z => Ending.returned (.int .i64 z)) ?_, Hf.out⟩
      rw [← HS.out, HL.out]
      simp [sumP]
    · intro x c A B w1 hL hr1 hf1 hs1 hlt hen
      have HL := Lib.hid hL
      have Hr1 := Lib.hid hr1
      have Hf1 : Hid (Fr w w1 Nil) := Hf.out.trans hf1 fun j hj hj2 => by omega
      have Hlt := Lib.hid hlt
      have hwl := Hr1.out.lt
      clear hL hr1 hf1 hlt
      go_wp2_with fail
      refine (hp c _).mono ?_
      rintro e w2 ⟨rfl, hf2⟩
      have hfa : Fr w1 w2 Nil := ((Fr.refl w1 Nil).alloc _).trans0 hf2
      have Hr2 := Lib.hid (Hr1.out.fr0 hfa)
      have Hf2 := Lib.hid (Hf1.out.trans0 hfa)
      have Hl2 := Lib.hid (Hr1.out.left hfa (fun h => h) fun h => h)
      clear hf2 hfa
      go_wp2_with fail
      go_roundw
      case rel =>
        refine ⟨A ++ B, ?_, Hr2.out, Hf2.out⟩
        rw [← HS.out, HL.out, sumP_mid]
        congr 1
        unfold wrap64; omega
      case measure => rw [Hl2.out]; exact Hlt.out

theorem one_any (c : Nd) (w : World) : Calls Try.prog 30 #[encN c] w fun e w' => e = .returned (.int .i64 1) ∧ Fr w w' Nil := by
  go_enter Try.func30, Try.ntmps30
  go_wp2_with fail
  go_ret
  exact ⟨rfl, (Fr.refl w Nil).alloc _⟩
theorem partL_any (c : Nd) (w : World) : Calls Try.prog 31 #[encN c] w fun e w' => e = .returned (.int .i64 c.l) ∧ Fr w w' Nil := by
  go_enter Try.func31, Try.ntmps31
  go_wp2_with fail
  go_ret
  exact ⟨rfl, (Fr.refl w Nil).alloc _⟩
theorem partU_any (c : Nd) (w : World) : Calls Try.prog 32 #[encN c] w fun e w' => e = .returned (.int .i64 c.u) ∧ Fr w w' Nil := by
  go_enter Try.func32, Try.ntmps32
  go_wp2_with fail
  go_ret
  exact ⟨rfl, (Fr.refl w Nil).alloc _⟩
set_option maxRecDepth 100000 in
set_option maxHeartbeats 400000 in
theorem may_any (c : Nd) (w : World) : Calls Try.prog 20 #[encN c] w fun e w' => e = .returned (.bool c.may) ∧ Fr w w' Nil := by
  by_cases h0 : 0 ≤ c.proc
  · go_enter Try.func20, Try.ntmps20
    go_wp2_with fail
    refine (fits_any _ [c.l, c.u] _ ?_ (by simp) (by simp)).mono ?_
    · refine ints_of_bk2 (bk_at _ 2 #[.int .i64 c.l, .int .i64 c.u] _ (by simp)) rfl rfl
    rintro e w' ⟨rfl, rfl⟩
    go_wp2_with fail
    go_ret
    refine ⟨congrArg (fun z => Ending.returned (.bool z)) ?_, ((Fr.refl w Nil).alloc _).alloc _⟩
    unfold Nd.may
    rw [decide_eq_true h0]
    simp
  · go_enter Try.func20, Try.ntmps20
    go_wp2_with fail
    go_ret
    refine ⟨congrArg (fun z => Ending.returned (.bool z)) ?_, (Fr.refl w Nil).alloc _⟩
    unfold Nd.may
    rw [decide_eq_false (by omega)]
    rfl
end Go.Proofs.Ytplebgcgoigigaa
