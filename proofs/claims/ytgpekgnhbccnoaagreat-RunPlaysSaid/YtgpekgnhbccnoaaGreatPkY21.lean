/-
 Walks of Same, and what it uses, for an instruction beside one of its kind alone.
 No condition.
 Walk of Same, for one instruction beside one of its kind alone.
 No condition.
-/
import Derived.Test.YtgpekgnhbccnoaaGreatPkY18
import Derived.BigFrame
import Derived.Test.YtgpekgnhbccnoaaGreatPkY20
namespace Go.Proofs.YtgpekgnhbccnoaaGreat
open Go Go.RowKit
attribute [local go_sem ↓] Go.wp_at_zero Go.wp_at_succ

/-- All its fields are nothing, but for the kind. -/
def NoneP (n : InstrD) : Prop := n.mode = 0 ∧ n.tab = 0 ∧ n.row = false ∧ n.col = 0 ∧ n.var = 0 ∧ n.dst = 0 ∧ n.eq = false ∧ n.fro = 0 ∧ n.upto = 0 ∧ n.key = [] ∧ n.vals = []
instance (n : InstrD) : Decidable (NoneP n) := by unfold NoneP; infer_instance
abbrev onlyV (op : Int) : Value := .agg #[.int .u8 op, .int .i64 0, .int .u8 0, .int .i64 0, .bool false, .int .i64 0, .int .i64 0, .int .i64 0, .bool false, .int .i64 0, .int .i64 0, .slice none 0 0, .slice none 0 0]
theorem same_fr (w : World) (c1 c2 : Array Value) (t : TypeId) : Fr w ((w.alloc (.cells c1 t)).alloc (.cells c2 t)) Nil := ((Fr.refl w Nil).alloc _).alloc _
theorem same_cell {w : World} {a : Addr} {v : Value} (h : w.cell? a = some v) (c1 c2 : Array Value) (t : TypeId) : ((w.alloc (.cells c1 t)).alloc (.cells c2 t)).cell? a = some v := (same_fr w c1 c2 t).cell h fun h => h
set_option maxRecDepth 100000 in
set_option maxHeartbeats 4000000 in
theorem csame2_any (n : InstrD) (ka va : Option Addr) (kc vc fb : Nat) (w : World) (hf : w.cell? ⟨fb, 0, none⟩ = some (.func (.func 127) #[] #[])) :
  Calls Tryz.prog 130 #[n.val (.slice ka n.key.length kc) (.slice va n.vals.length vc), onlyV n.op, .pointer (some ⟨fb, 0, none⟩)] w fun e w' => e = .returned (.bool (decide (NoneP n))) ∧ Fr w w' Nil := by
 obtain ⟨op, node, mode, tab, row, col, var, dst, eq, fro, upto, key, vals⟩ := n
 simp only [InstrD.val, onlyV]
 have HKN : Hid (∀ n, n = key.length → (n = 0 ↔ key = [])) := fun n h => by rw [h]; exact List.length_eq_zero_iff
 have HVN : Hid (∀ n, n = vals.length → (n = 0 ↔ vals = [])) := fun n h => by rw [h]; exact List.length_eq_zero_iff
 obtain ⟨kn, hkn⟩ : ∃ kn, kn = key.length := ⟨_, rfl⟩
 obtain ⟨vn, hvn⟩ : ∃ vn, vn = vals.length := ⟨_, rfl⟩
 rw [← hkn, ← hvn]
 have HK := Lib.hid (HKN.out kn hkn)
 have HV := Lib.hid (HVN.out vn hvn)
 clear hkn hvn HKN HVN
 have z0 := same_cell hf #[.int .u8 op, .int .i64 node, .int .u8 mode, .int .i64 tab, .bool row, .int .i64 col, .int .i64 var, .int .i64 dst, .bool eq, .int .i64 fro, .int .i64 upto, .slice ka kn kc, .slice va vn vc] #[.int .u8 op, .int .i64 0, .int .u8 0, .int .i64 0, .bool false, .int .i64 0, .int .i64 0, .int .i64 0, .bool false, .int .i64 0, .int .i64 0, .slice none 0 0, .slice none 0 0] 81
 clear hf
 have HFR : Hid (∀ c1 c2 t, Fr w ((w.alloc (.cells c1 t)).alloc (.cells c2 t)) Nil) := same_fr w
 obtain ⟨b, hb⟩ : ∃ b, b = decide (NoneP ⟨op, node, mode, tab, row, col, var, dst, eq, fro, upto, key, vals⟩) := ⟨_, rfl⟩
 rw [← hb]
 have HB := Lib.hid hb
 clear hb
 go_enter Tryz.func130, Tryz.ntmps130
 iterate 39 (first | go_skip | go_guarded | go_step | go_upon | go_back)
 by_cases q : mode = 0
 rotate_left
 ·have e : (mode == 0) = false := by rw [beq_eq_false_iff_ne]; exact q
  have HX : Hid (b = false) := by rw [HB.out]; exact Lib.hid (decide_eq_false fun h => q h.1)
  simp only [e]
  clear e q z0
  refine wpList_tail (n := 5) (v := .bool false) (by kernel_rfl) fun a' h5 hd => ?_
  go_wp2_with fail
  exact bodyPost_ret (results_tmp rfl _ _ _) hd ⟨by rw [h5, HX.out], HFR.out _ _ _⟩
 subst q
 (try simp only [beq_self_eq_true])
 iterate 14 (first | go_skip | go_guarded | go_step | go_upon | go_back)
 by_cases q : tab = 0
 rotate_left
 ·have e : (tab == 0) = false := by rw [beq_eq_false_iff_ne]; exact q
  have HX : Hid (b = false) := by rw [HB.out]; exact Lib.hid (decide_eq_false fun h => q h.2.1)
  simp only [e]
  clear e q z0
  refine wpList_tail (n := 5) (v := .bool false) (by kernel_rfl) fun a' h5 hd => ?_
  go_wp2_with fail
  exact bodyPost_ret (results_tmp rfl _ _ _) hd ⟨by rw [h5, HX.out], HFR.out _ _ _⟩
 subst q
 (try simp only [beq_self_eq_true])
 cases row
 rotate_left
 ·have HX : Hid (b = false) := by rw [HB.out]; exact Lib.hid (decide_eq_false fun h => Bool.noConfusion h.2.2.1)
  iterate 14 (first | go_skip | go_guarded | go_step | go_upon | go_back)
  clear z0
  refine wpList_tail (n := 5) (v := .bool false) (by kernel_rfl) fun a' h5 hd => ?_
  go_wp2_with fail
  exact bodyPost_ret (results_tmp rfl _ _ _) hd ⟨by rw [h5, HX.out], HFR.out _ _ _⟩
 iterate 14 (first | go_skip | go_guarded | go_step | go_upon | go_back)
 iterate 14 (first | go_skip | go_guarded | go_step | go_upon | go_back)
 by_cases q : col = 0
 rotate_left
 ·have e : (col == 0) = false := by rw [beq_eq_false_iff_ne]; exact q
  have HX : Hid (b = false) := by rw [HB.out]; exact Lib.hid (decide_eq_false fun h => q h.2.2.2.1)
  simp only [e]
  clear e q z0
  refine wpList_tail (n := 5) (v := .bool false) (by kernel_rfl) fun a' h5 hd => ?_
  go_wp2_with fail
  exact bodyPost_ret (results_tmp rfl _ _ _) hd ⟨by rw [h5, HX.out], HFR.out _ _ _⟩
 subst q
 (try simp only [beq_self_eq_true])
 iterate 14 (first | go_skip | go_guarded | go_step | go_upon | go_back)
 by_cases q : var = 0
 rotate_left
 ·have e : (var == 0) = false := by rw [beq_eq_false_iff_ne]; exact q
  have HX : Hid (b = false) := by rw [HB.out]; exact Lib.hid (decide_eq_false fun h => q h.2.2.2.2.1)
  simp only [e]
  clear e q z0
  refine wpList_tail (n := 5) (v := .bool false) (by kernel_rfl) fun a' h5 hd => ?_
  go_wp2_with fail
  exact bodyPost_ret (results_tmp rfl _ _ _) hd ⟨by rw [h5, HX.out], HFR.out _ _ _⟩
 subst q
 (try simp only [beq_self_eq_true])
 iterate 14 (first | go_skip | go_guarded | go_step | go_upon | go_back)
 by_cases q : dst = 0
 rotate_left
 ·have e : (dst == 0) = false := by rw [beq_eq_false_iff_ne]; exact q
  have HX : Hid (b = false) := by rw [HB.out]; exact Lib.hid (decide_eq_false fun h => q h.2.2.2.2.2.1)
  simp only [e]
  clear e q z0
  refine wpList_tail (n := 5) (v := .bool false) (by kernel_rfl) fun a' h5 hd => ?_
  go_wp2_with fail
  exact bodyPost_ret (results_tmp rfl _ _ _) hd ⟨by rw [h5, HX.out], HFR.out _ _ _⟩
 subst q
 (try simp only [beq_self_eq_true])
 cases eq
 rotate_left
 ·have HX : Hid (b = false) := by rw [HB.out]; exact Lib.hid (decide_eq_false fun h => Bool.noConfusion h.2.2.2.2.2.2.1)
  iterate 16 (first | go_skip | go_guarded | go_step | go_upon | go_back)
  clear z0
  refine wpList_tail (n := 5) (v := .bool false) (by kernel_rfl) fun a' h5 hd => ?_
  go_wp2_with fail
  exact bodyPost_ret (results_tmp rfl _ _ _) hd ⟨by rw [h5, HX.out], HFR.out _ _ _⟩
 iterate 16 (first | go_skip | go_guarded | go_step | go_upon | go_back)
 iterate 16 (first | go_skip | go_guarded | go_step | go_upon | go_back)
 by_cases q : fro = 0
 rotate_left
 ·have e : (fro == 0) = false := by rw [beq_eq_false_iff_ne]; exact q
  have HX : Hid (b = false) := by rw [HB.out]; exact Lib.hid (decide_eq_false fun h => q h.2.2.2.2.2.2.2.1)
  simp only [e]
  clear e q z0
  refine wpList_tail (n := 5) (v := .bool false) (by kernel_rfl) fun a' h5 hd => ?_
  go_wp2_with fail
  exact bodyPost_ret (results_tmp rfl _ _ _) hd ⟨by rw [h5, HX.out], HFR.out _ _ _⟩
 subst q
 (try simp only [beq_self_eq_true])
 iterate 16 (first | go_skip | go_guarded | go_step | go_upon | go_back)
 by_cases q : upto = 0
 rotate_left
 ·have e : (upto == 0) = false := by rw [beq_eq_false_iff_ne]; exact q
  have HX : Hid (b = false) := by rw [HB.out]; exact Lib.hid (decide_eq_false fun h => q h.2.2.2.2.2.2.2.2.1)
  simp only [e]
  clear e q z0
  refine wpList_tail (n := 5) (v := .bool false) (by kernel_rfl) fun a' h5 hd => ?_
  go_wp2_with fail
  exact bodyPost_ret (results_tmp rfl _ _ _) hd ⟨by rw [h5, HX.out], HFR.out _ _ _⟩
 subst q
 (try simp only [beq_self_eq_true])
 go_wp2_with fail
 by_cases q : kn = 0
 rotate_left
 ·have HX : Hid (b = false) := by rw [HB.out]; exact Lib.hid (decide_eq_false fun h => q (HK.out.2 h.2.2.2.2.2.2.2.2.2.1))
  refine (csame1_nil _ _ _ _ false (decide_eq_false q)).mono ?_
  rintro e w2 ⟨rfl, rfl⟩
  clear q z0
  go_wp2_with fail
  exact bodyPost_ret (results_tmp rfl _ _ _) rfl ⟨by rw [HX.out]; rfl, HFR.out _ _ _⟩
 subst q
 refine (csame1_nil _ 0 _ _ true rfl).mono ?_
 rintro e w2 ⟨rfl, rfl⟩
 go_wp2_with fail
 refine (eqfT_nil _ _ _ _).mono ?_
 rintro e w2 ⟨he, rfl⟩
 have HX : Hid (decide (vn = 0) = b) := by
  rw [HB.out]
  have : decide (vn = 0) = decide (NoneP ⟨op, node, 0, 0, false, 0, 0, 0, false, 0, 0, key, vals⟩) := by
   have h1 : key = [] := by simpa using HK.out
   have h2 := HV.out
   rw [decide_eq_decide]
   unfold NoneP
   simp [h1, h2]
  exact this
 rw [HX.out] at he
 subst he
 go_wp2_with fail
 exact bodyPost_ret (results_tmp rfl _ _ _) rfl ⟨rfl, HFR.out _ _ _⟩
end Go.Proofs.YtgpekgnhbccnoaaGreat
namespace Go.Proofs.YtgpekgnhbccnoaaGreat
open Go Go.RowKit
attribute [local go_sem ↓] Go.wp_at_zero Go.wp_at_succ

set_option maxRecDepth 100000 in
set_option maxHeartbeats 4000000 in
theorem ceqf_any (n : InstrD) (ka va : Option Addr) (kc vc fb ab bb ac bc : Nat) (w : World) (hf : w.cell? ⟨fb, 0, none⟩ = some (.func (.func 127) #[] #[]))
  (ha : Bk w ab 81 (n.cs (.slice ka n.key.length kc) (.slice va n.vals.length vc))) (hb : Bk w bb 81 [.int .u8 n.op, .int .i64 0, .int .u8 0, .int .i64 0, .bool false, .int .i64 0, .int .i64 0, .int .i64 0, .bool false, .int .i64 0, .int .i64 0, .slice none 0 0, .slice none 0 0]) :
  Calls Tryz.prog 129 #[.slice (some ⟨ab, 0, none⟩) 1 ac, .slice (some ⟨bb, 0, none⟩) 1 bc, .func (.func 130) #[] #[.pointer (some ⟨fb, 0, none⟩)]] w fun e w' => e = .returned (.bool (decide (NoneP n))) ∧ Fr w w' Nil := by
 have HA := Lib.hid ha
 have HB := Lib.hid hb
 have HF := Lib.hid hf
 clear ha hb hf
 go_enter Tryz.func129, Tryz.ntmps129
 go_wp2_with fail
 go_loopw [7, 8, 9, 17] (fun _ _ _ vi wr => (vi = .int .i64 0 ∧ Fr w wr Nil) ∨ (vi = .int .i64 1 ∧ NoneP n ∧ Fr w wr Nil)) (fun _ _ _ vi _ => 1 - (intOf vi).toNat)
 case atStart => exact .inl ⟨rfl, Fr.refl _ _⟩
 case round =>
  rcases hrel with ⟨rfl, hf⟩ | ⟨rfl, hn, hf⟩
  ·have HR := Lib.hid hf
   have a0 := (HA.out.fr hf fun h => h).cell 0
   have a1 := (HA.out.fr hf fun h => h).cell 1
   have a2 := (HA.out.fr hf fun h => h).cell 2
   have a3 := (HA.out.fr hf fun h => h).cell 3
   have a4 := (HA.out.fr hf fun h => h).cell 4
   have a5 := (HA.out.fr hf fun h => h).cell 5
   have a6 := (HA.out.fr hf fun h => h).cell 6
   have a7 := (HA.out.fr hf fun h => h).cell 7
   have a8 := (HA.out.fr hf fun h => h).cell 8
   have a9 := (HA.out.fr hf fun h => h).cell 9
   have a10 := (HA.out.fr hf fun h => h).cell 10
   have a11 := (HA.out.fr hf fun h => h).cell 11
   have a12 := (HA.out.fr hf fun h => h).cell 12
   have HBr := Lib.hid (HB.out.fr hf fun h => h)
   simp only [InstrD.cs, List.getElem?_cons_zero, List.getElem?_cons_succ] at a0 a1 a2 a3 a4 a5 a6 a7 a8 a9 a10 a11 a12
   have b0 := fun o => (HBr.out.alloc o).cell 0
   have b1 := fun o => (HBr.out.alloc o).cell 1
   have b2 := fun o => (HBr.out.alloc o).cell 2
   have b3 := fun o => (HBr.out.alloc o).cell 3
   have b4 := fun o => (HBr.out.alloc o).cell 4
   have b5 := fun o => (HBr.out.alloc o).cell 5
   have b6 := fun o => (HBr.out.alloc o).cell 6
   have b7 := fun o => (HBr.out.alloc o).cell 7
   have b8 := fun o => (HBr.out.alloc o).cell 8
   have b9 := fun o => (HBr.out.alloc o).cell 9
   have b10 := fun o => (HBr.out.alloc o).cell 10
   have b11 := fun o => (HBr.out.alloc o).cell 11
   have b12 := fun o => (HBr.out.alloc o).cell 12
   simp only [List.getElem?_cons_zero, List.getElem?_cons_succ] at b0 b1 b2 b3 b4 b5 b6 b7 b8 b9 b10 b11 b12
   have HF2 : Hid (∀ c1 c2 t, Fr w ((wr.alloc (.cells c1 t)).alloc (.cells c2 t)) Nil) := fun c1 c2 t => (HR.out.alloc _).alloc _
   clear hf
   go_wp2_with fail
   refine (csame2_any n ka va kc vc fb _ ((HF2.out _ _ _).cell HF.out fun h => h)).mono ?_
   rintro e w2 ⟨he, hf⟩
   have HF3 := Lib.hid ((HF2.out _ _ _).trans0 hf)
   clear hf a0 a1 a2 a3 a4 a5 a6 a7 a8 a9 a10 a11 a12 b0 b1 b2 b3 b4 b5 b6 b7 b8 b9 b10 b11 b12
   by_cases hn : NoneP n
   ·rw [decide_eq_true hn] at he
    subst he
    have HN := Lib.hid hn
    clear hn
    go_wp2_with fail
    go_roundw
    case rel => exact .inr ⟨rfl, HN.out, HF3.out⟩
    case measure => simp [intOf]
   ·rw [decide_eq_false hn] at he
    subst he
    have HN := Lib.hid (decide_eq_false hn)
    clear hn
    go_wp2_with fail
    go_ret
    exact ⟨by rw [HN.out]; rfl, HF3.out⟩
  ·have HR := Lib.hid hf
   have HN := Lib.hid (decide_eq_true hn)
   clear hf hn
   go_wp2_with fail
   go_ret
   exact ⟨by rw [HN.out]; rfl, HR.out⟩
set_option maxRecDepth 100000 in
set_option maxHeartbeats 400000 in
theorem csame_any (n : InstrD) (ka va : Option Addr) (kc vc ab bb ac bc : Nat) (w : World)
  (ha : Bk w ab 81 (n.cs (.slice ka n.key.length kc) (.slice va n.vals.length vc))) (hb : Bk w bb 81 [.int .u8 n.op, .int .i64 0, .int .u8 0, .int .i64 0, .bool false, .int .i64 0, .int .i64 0, .int .i64 0, .bool false, .int .i64 0, .int .i64 0, .slice none 0 0, .slice none 0 0]) :
  Calls Tryz.prog 108 #[.slice (some ⟨ab, 0, none⟩) 1 ac, .slice (some ⟨bb, 0, none⟩) 1 bc] w fun e w' => e = .returned (.bool (decide (NoneP n))) ∧ Fr w w' Nil := by
 have HA := Lib.hid (ha.alloc (.cells #[.func (.func 127) #[] #[]] 204))
 have HB := Lib.hid (hb.alloc (.cells #[.func (.func 127) #[] #[]] 204))
 have HF : Hid (∀ o, Fr w (w.alloc o) Nil) := fun o => (Fr.refl w Nil).alloc o
 clear ha hb
 go_enter Tryz.func108, Tryz.ntmps108
 go_wp2_with fail
 refine (ceqf_any n ka va kc vc w.heap.size ab bb ac bc _ ((Bk.new w _ _).cell 0) HA.out HB.out).mono ?_
 rintro e w2 ⟨he, hf⟩
 obtain ⟨b, hb⟩ : ∃ b, b = decide (NoneP n) := ⟨_, rfl⟩
 have HX := Lib.hid hb
 rw [← hb] at he
 subst he
 have HF2 := Lib.hid ((HF.out _).trans0 hf)
 clear hf hb
 go_wp2_with fail
 go_ret
 exact ⟨by rw [← HX.out]; rfl, HF2.out⟩
end Go.Proofs.YtgpekgnhbccnoaaGreat
