/-
  The walk of AdmitKnown: it answers true.
  No condition.
-/
import Derived.Test.YtplebgcgoigigaaRgPlays
import Derived.Test.YtplebgcgoigigaaAdFits2
namespace Go.Proofs.Ytplebgcgoigigaa
open Go Go.RowKit Go.Maps Go.Shelf

def knownCalls : List CallD :=
  [⟨0, 1, ⟨0, false, 4611686018427387904, 0⟩, by decide, by decide⟩,
   ⟨0, 2, ⟨1, false, 1, 0⟩, by decide, by decide⟩,
   ⟨0, 2, ⟨1, false, 0, 4611686018427387904⟩, by decide, by decide⟩,
   ⟨0, 2, ⟨0, false, 0, 1⟩, by decide, by decide⟩,
   ⟨1, 3, ⟨2, false, (-1), 0⟩, by decide, by decide⟩,
   ⟨1, 3, ⟨2, false, 0, (-1)⟩, by decide, by decide⟩,
   ⟨1, 3, ⟨(-1), false, 0, 0⟩, by decide, by decide⟩,
   ⟨1, 3, ⟨2, false, 4611686018427387905, 0⟩, by decide, by decide⟩,
   ⟨1, 3, ⟨0, true, 0, 0⟩, by decide, by decide⟩,
   ⟨0, 3, ⟨3, true, 0, 0⟩, by decide, by decide⟩,
   ⟨0, 4, ⟨3, false, 0, 0⟩, by decide, by decide⟩,
   ⟨3, 4, ⟨3, false, 0, 0⟩, by decide, by decide⟩,
   ⟨3, 4, ⟨4, false, 0, 0⟩, by decide, by decide⟩,
   ⟨2, 3, ⟨0, false, 0, 0⟩, by decide, by decide⟩,
   ⟨2, 3, ⟨0, false, 0, 0⟩, by decide, by decide⟩,
   ⟨0, 4, ⟨3, false, 0, 0⟩, by decide, by decide⟩,
   ⟨0, 5, ⟨3, false, 0, 0⟩, by decide, by decide⟩,
   ⟨2, 1, ⟨0, false, 0, 0⟩, by decide, by decide⟩,
   ⟨2, 2, ⟨0, false, 0, 0⟩, by decide, by decide⟩,
   ⟨0, 6, ⟨0, false, 5, 5⟩, by decide, by decide⟩]
def knownCaps : List CapD := [⟨0, 0, 0⟩, ⟨1, 1, 1⟩, ⟨4611686018427387904, 4611686018427387904, 4611686018427387904⟩, ⟨5, 4611686018427387904, 4611686018427387904⟩, ⟨3, 9, 9⟩, ⟨(-1), 0, 0⟩, ⟨0, (-1), 0⟩, ⟨0, 0, (-1)⟩, ⟨4611686018427387905, 0, 0⟩, ⟨0, 4611686018427387905, 0⟩, ⟨0, 0, 4611686018427387905⟩]
abbrev CapD.vals3 (c : CapD) : List Value := [.int .i64 c.n, .int .i64 c.l, .int .i64 c.u]
def kcells : Array Value := #[.int .u8 0, .int .i64 1, .int .i64 0, .bool false, .int .i64 4611686018427387904, .int .i64 0, .int .u8 0, .int .i64 2, .int .i64 1, .bool false, .int .i64 1, .int .i64 0, .int .u8 0, .int .i64 2, .int .i64 1, .bool false, .int .i64 0, .int .i64 4611686018427387904, .int .u8 0, .int .i64 2, .int .i64 0, .bool false, .int .i64 0, .int .i64 1, .int .u8 1, .int .i64 3, .int .i64 2, .bool false, .int .i64 (-1), .int .i64 0, .int .u8 1, .int .i64 3, .int .i64 2, .bool false, .int .i64 0, .int .i64 (-1), .int .u8 1, .int .i64 3, .int .i64 (-1), .bool false, .int .i64 0, .int .i64 0, .int .u8 1, .int .i64 3, .int .i64 2, .bool false, .int .i64 4611686018427387905, .int .i64 0, .int .u8 1, .int .i64 3, .int .i64 0, .bool true, .int .i64 0, .int .i64 0, .int .u8 0, .int .i64 3, .int .i64 3, .bool true, .int .i64 0, .int .i64 0, .int .u8 0, .int .i64 4, .int .i64 3, .bool false, .int .i64 0, .int .i64 0, .int .u8 3, .int .i64 4, .int .i64 3, .bool false, .int .i64 0, .int .i64 0, .int .u8 3, .int .i64 4, .int .i64 4, .bool false, .int .i64 0, .int .i64 0, .int .u8 2, .int .i64 3, .int .i64 0, .bool false, .int .i64 0, .int .i64 0, .int .u8 2, .int .i64 3, .int .i64 0, .bool false, .int .i64 0, .int .i64 0, .int .u8 0, .int .i64 4, .int .i64 3, .bool false, .int .i64 0, .int .i64 0, .int .u8 0, .int .i64 5, .int .i64 3, .bool false, .int .i64 0, .int .i64 0, .int .u8 2, .int .i64 1, .int .i64 0, .bool false, .int .i64 0, .int .i64 0, .int .u8 2, .int .i64 2, .int .i64 0, .bool false, .int .i64 0, .int .i64 0, .int .u8 0, .int .i64 6, .int .i64 0, .bool false, .int .i64 5, .int .i64 5]
def pcells : Array Value := #[.int .i64 0, .int .i64 0, .int .i64 0, .int .i64 1, .int .i64 1, .int .i64 1, .int .i64 4611686018427387904, .int .i64 4611686018427387904, .int .i64 4611686018427387904, .int .i64 5, .int .i64 4611686018427387904, .int .i64 4611686018427387904, .int .i64 3, .int .i64 9, .int .i64 9, .int .i64 (-1), .int .i64 0, .int .i64 0, .int .i64 0, .int .i64 (-1), .int .i64 0, .int .i64 0, .int .i64 0, .int .i64 (-1), .int .i64 4611686018427387905, .int .i64 0, .int .i64 0, .int .i64 0, .int .i64 4611686018427387905, .int .i64 0, .int .i64 0, .int .i64 0, .int .i64 4611686018427387905]
def aw1 (w : World) : World := w.alloc (Obj.cells kcells 35)
def aw2 (w : World) : World := (aw1 w).alloc (Obj.cells pcells 23)
theorem aw1_size (w : World) : (aw1 w).heap.size = w.heap.size + 1 := by rw [aw1, World.size_alloc]
theorem aw2_fr (w : World) : Fr w (aw2 w) Nil := ((Fr.refl w Nil).alloc _).alloc _
theorem wpList_exec {P : Program} {ops : Array Oper} {rest : List Oper} {o : Oper} {a : Act} {Q : Exit → Act → World → Prop} {w w' : World} {v : Value} (hg : o.guard = none) (hrun : (execOp a.eval o).run P w = .ok (.value v) w') (hK : wpList P ops Q rest (a.put o.dst v) w') : wpList P ops Q (o :: rest) a w :=
  wpList_plain hg fun K hK' => by unfold Oper.wp; rw [hrun]; exact hK' _ _ hK
theorem wpList_exec_at {P : Program} {ops : Array Oper} {rest : List Oper} {o : Oper} {a : Act} {Q : Exit → Act → World → Prop} {w w' : World} {v : Value} {n : Nat} (_ : o.dst = some n) (hg : o.guard = none) (hrun : (execOp a.eval o).run P w = .ok (.value v) w') (hK : wpList P ops Q rest (a.put o.dst v) w') : wpList P ops Q (o :: rest) a w := wpList_exec hg hrun hK
set_option maxRecDepth 100000 in
theorem kcells_eq : kcells.toList = knownCalls.flatMap CallD.vals := rfl
set_option maxRecDepth 100000 in
theorem pcells_eq : pcells.toList = knownCaps.flatMap CapD.vals3 := rfl

theorem known_calls {w : World} {b : Nat} {e : TypeId} (h : Bk w b e kcells.toList) : CallsAt w (.slice (some ⟨b, 0, none⟩) 20 20) knownCalls := by
  rw [kcells_eq] at h
  refine ⟨sl_of (f := CallD.vals) (n := 6) (fun _ => rfl) (by decide) (fun i t ht j u hu => ?_), (fun a n c e => by cases e; exact Nat.le_refl _), by decide⟩
  rw [Nat.zero_add, h.cell, flat_get (f := CallD.vals) (n := 6) (fun _ => rfl) ht j (List.getElem?_eq_some_iff.1 hu).1]
  exact hu
theorem known_caps {w : World} {b : Nat} {e : TypeId} (h : Bk w b e pcells.toList) (k : Nat) (c : CapD) (hc : knownCaps[k]? = some c) (j : Nat) (u : Value) (hu : c.vals3[j]? = some u) : w.cell? ⟨b, k * 3 + j, none⟩ = some u := by
  rw [pcells_eq] at h
  rw [h.cell, flat_get (f := CapD.vals3) (n := 3) (fun _ => rfl) hc j (List.getElem?_eq_some_iff.1 hu).1]
  exact hu
section
variable (w : World)
set_option maxRecDepth 100000 in
set_option maxHeartbeats 400000 in
theorem of_nil (x : Int) : Calls Try.prog 18 #[.pointer none, .int .i64 x] w fun e w' => e = .returned (.tuple #[.agg #[.int .i64 0, .bool false, .int .i64 0, .int .i64 0], .bool false]) ∧ Fr w w' Nil := by
  have hf := (Fr.refl w Nil).alloc (.cells #[.int .i64 0, .bool false, .int .i64 0, .int .i64 0] 27)
  go_enter Try.func18, Try.ntmps18
  go_wp2_with fail
  refine bodyPost_ret (by simp [results, Try.results18, go_sem]; try rfl) rfl ?_
  exact ⟨rfl, hf⟩
set_option maxRecDepth 100000 in
set_option maxHeartbeats 400000 in
theorem enter_nil (x : Int) (n : Nd) : Calls Try.prog 10 #[.pointer none, .int .i64 x, encN n] w fun e w' => e = .returned (.int .i64 1) ∧ Fr w w' Nil := by
  have hf := (Fr.refl w Nil).alloc (.cells #[.int .i64 n.proc, .bool n.single, .int .i64 n.l, .int .i64 n.u] 27)
  go_enter Try.func10, Try.ntmps10
  go_wp2_with fail
  go_ret
  exact ⟨rfl, hf⟩
set_option maxRecDepth 100000 in
set_option maxHeartbeats 400000 in
theorem leave_nil (x : Int) : Calls Try.prog 13 #[.pointer none, .int .i64 x] w fun e w' => e = .returned (.int .i64 1) ∧ Fr w w' Nil := by
  go_enter Try.func13, Try.ntmps13
  go_wp2_with fail
  go_ret
  exact ⟨rfl, Fr.refl _ _⟩
set_option maxRecDepth 100000 in
set_option maxHeartbeats 400000 in
theorem may_nil (n : Nd) : Calls Try.prog 11 #[.pointer none, encN n] w fun e w' => e = .returned (.bool false) ∧ Fr w w' Nil := by
  have hf := (Fr.refl w Nil).alloc (.cells #[.int .i64 n.proc, .bool n.single, .int .i64 n.l, .int .i64 n.u] 27)
  go_enter Try.func11, Try.ntmps11
  go_wp2_with fail
  go_ret
  exact ⟨rfl, hf⟩
set_option maxRecDepth 100000 in
set_option maxHeartbeats 400000 in
theorem in_nil : Calls Try.prog 12 #[.pointer none] w fun e w' => e = .returned (.slice none 0 0) ∧ Fr w w' Nil := by
  go_enter Try.func12, Try.ntmps12
  go_wp2_with fail
  go_ret
  exact ⟨rfl, Fr.refl _ _⟩
set_option maxRecDepth 100000 in
set_option maxHeartbeats 400000 in
theorem groom_nil : Calls Try.prog 17 #[.pointer none] w fun e w' => e = .returned (.agg #[.int .i64 0, .int .i64 0, .int .i64 0]) ∧ Fr w w' Nil := by
  have hf := (Fr.refl w Nil).alloc (.cells #[.int .i64 0, .int .i64 0, .int .i64 0] 23)
  go_enter Try.func17, Try.ntmps17
  go_wp2_with fail
  refine bodyPost_ret (by simp [results, Try.results17, go_sem]; try rfl) rfl ?_
  exact ⟨rfl, hf⟩
set_option maxRecDepth 100000 in
set_option maxHeartbeats 4000000 in
theorem aknown_any : Calls Try.prog 6 #[] w fun e w' => e = .returned (.bool true) ∧ Fr w w' Nil := by
  go_enter Try.func6, Try.ntmps6
  go_wp2_with fail
  refine (of_nil w 1).mono ?_
  rintro e w1 ⟨rfl, hf⟩
  have HF1 := Lib.hid hf
  clear hf
  go_wp2_with fail
  refine (enter_nil _ 1 zeroN).mono ?_
  rintro e w2 ⟨rfl, hf⟩
  have HF2 := Lib.hid ((HF1.out.alloc (.cells #[.int .i64 0, .bool false, .int .i64 0, .int .i64 0] 27)).trans0 hf)
  clear hf HF1
  go_wp2_with fail
  refine (leave_nil _ 1).mono ?_
  rintro e w3 ⟨rfl, hf⟩
  have HF3 := Lib.hid (HF2.out.trans0 hf)
  clear hf HF2
  go_wp2_with fail
  refine (may_nil _ zeroN).mono ?_
  rintro e w4 ⟨rfl, hf⟩
  have HF4 := Lib.hid (HF3.out.trans0 hf)
  clear hf HF3
  go_wp2_with fail
  refine (in_nil _).mono ?_
  rintro e w5 ⟨rfl, hf⟩
  have HF5 := Lib.hid (HF4.out.trans0 hf)
  clear hf HF4
  go_wp2_with fail
  refine (groom_nil _).mono ?_
  rintro e w6 ⟨rfl, hf⟩
  have HF6 := Lib.hid (HF5.out.trans0 hf)
  clear hf HF5
  -- ARMS
  go_wp2_with (first
          | (refine wpList_exec_at (v := .agg #[Value.int .i64 0, .bool false, .int .i64 4611686018427387904, .int .i64 0]) (w := w6) (w' := w6) (n := 46) rfl rfl (by kernel_rfl) ?_
             try simp only [Act.put, List.setIfInBounds_toArray, List.set_cons_zero, List.set_cons_succ]
             refine wpList_exec (v := .agg #[Value.int .u8 0, .int .i64 1, .int .i64 0, .bool false, .int .i64 4611686018427387904, .int .i64 0]) (w := w6) (w' := w6) rfl (by kernel_rfl) ?_
             try simp only [Act.put, List.setIfInBounds_toArray, List.set_cons_zero, List.set_cons_succ]
             refine wpList_exec (v := .agg #[Value.int .i64 1, .bool false, .int .i64 1, .int .i64 0]) (w := w6) (w' := w6) rfl (by kernel_rfl) ?_
             try simp only [Act.put, List.setIfInBounds_toArray, List.set_cons_zero, List.set_cons_succ]
             refine wpList_exec (v := .agg #[Value.int .u8 0, .int .i64 2, .int .i64 1, .bool false, .int .i64 1, .int .i64 0]) (w := w6) (w' := w6) rfl (by kernel_rfl) ?_
             try simp only [Act.put, List.setIfInBounds_toArray, List.set_cons_zero, List.set_cons_succ]
             refine wpList_exec (v := .int .i64 4611686018427387904) (w := w6) (w' := w6) rfl (by kernel_rfl) ?_
             try simp only [Act.put, List.setIfInBounds_toArray, List.set_cons_zero, List.set_cons_succ]
             refine wpList_exec (v := .agg #[Value.int .i64 1, .bool false, .int .i64 0, .int .i64 4611686018427387904]) (w := w6) (w' := w6) rfl (by kernel_rfl) ?_
             try simp only [Act.put, List.setIfInBounds_toArray, List.set_cons_zero, List.set_cons_succ]
             refine wpList_exec (v := .agg #[Value.int .u8 0, .int .i64 2, .int .i64 1, .bool false, .int .i64 0, .int .i64 4611686018427387904]) (w := w6) (w' := w6) rfl (by kernel_rfl) ?_
             try simp only [Act.put, List.setIfInBounds_toArray, List.set_cons_zero, List.set_cons_succ]
             refine wpList_exec (v := .agg #[Value.int .i64 0, .bool false, .int .i64 0, .int .i64 1]) (w := w6) (w' := w6) rfl (by kernel_rfl) ?_
             try simp only [Act.put, List.setIfInBounds_toArray, List.set_cons_zero, List.set_cons_succ]
             refine wpList_exec (v := .agg #[Value.int .u8 0, .int .i64 2, .int .i64 0, .bool false, .int .i64 0, .int .i64 1]) (w := w6) (w' := w6) rfl (by kernel_rfl) ?_
             try simp only [Act.put, List.setIfInBounds_toArray, List.set_cons_zero, List.set_cons_succ]
             refine wpList_exec (v := .agg #[Value.int .i64 2, .bool false, .int .i64 (-1), .int .i64 0]) (w := w6) (w' := w6) rfl (by kernel_rfl) ?_
             try simp only [Act.put, List.setIfInBounds_toArray, List.set_cons_zero, List.set_cons_succ]
             refine wpList_exec (v := .agg #[Value.int .u8 1, .int .i64 3, .int .i64 2, .bool false, .int .i64 (-1), .int .i64 0]) (w := w6) (w' := w6) rfl (by kernel_rfl) ?_
             try simp only [Act.put, List.setIfInBounds_toArray, List.set_cons_zero, List.set_cons_succ]
             refine wpList_exec (v := .agg #[Value.int .i64 2, .bool false, .int .i64 0, .int .i64 (-1)]) (w := w6) (w' := w6) rfl (by kernel_rfl) ?_
             try simp only [Act.put, List.setIfInBounds_toArray, List.set_cons_zero, List.set_cons_succ]
             refine wpList_exec (v := .agg #[Value.int .u8 1, .int .i64 3, .int .i64 2, .bool false, .int .i64 0, .int .i64 (-1)]) (w := w6) (w' := w6) rfl (by kernel_rfl) ?_
             try simp only [Act.put, List.setIfInBounds_toArray, List.set_cons_zero, List.set_cons_succ]
             refine wpList_exec (v := .agg #[Value.int .i64 (-1), .bool false, .int .i64 0, .int .i64 0]) (w := w6) (w' := w6) rfl (by kernel_rfl) ?_
             try simp only [Act.put, List.setIfInBounds_toArray, List.set_cons_zero, List.set_cons_succ]
             refine wpList_exec (v := .agg #[Value.int .u8 1, .int .i64 3, .int .i64 (-1), .bool false, .int .i64 0, .int .i64 0]) (w := w6) (w' := w6) rfl (by kernel_rfl) ?_
             try simp only [Act.put, List.setIfInBounds_toArray, List.set_cons_zero, List.set_cons_succ]
             refine wpList_exec (v := .int .i64 4611686018427387904) (w := w6) (w' := w6) rfl (by kernel_rfl) ?_
             try simp only [Act.put, List.setIfInBounds_toArray, List.set_cons_zero, List.set_cons_succ]
             refine wpList_exec (v := .int .i64 4611686018427387905) (w := w6) (w' := w6) rfl (by kernel_rfl) ?_
             try simp only [Act.put, List.setIfInBounds_toArray, List.set_cons_zero, List.set_cons_succ]
             refine wpList_exec (v := .agg #[Value.int .i64 2, .bool false, .int .i64 4611686018427387905, .int .i64 0]) (w := w6) (w' := w6) rfl (by kernel_rfl) ?_
             try simp only [Act.put, List.setIfInBounds_toArray, List.set_cons_zero, List.set_cons_succ]
             refine wpList_exec (v := .agg #[Value.int .u8 1, .int .i64 3, .int .i64 2, .bool false, .int .i64 4611686018427387905, .int .i64 0]) (w := w6) (w' := w6) rfl (by kernel_rfl) ?_
             try simp only [Act.put, List.setIfInBounds_toArray, List.set_cons_zero, List.set_cons_succ]
             refine wpList_exec (v := .agg #[Value.int .i64 0, .bool true, .int .i64 0, .int .i64 0]) (w := w6) (w' := w6) rfl (by kernel_rfl) ?_
             try simp only [Act.put, List.setIfInBounds_toArray, List.set_cons_zero, List.set_cons_succ]
             refine wpList_exec (v := .agg #[Value.int .u8 1, .int .i64 3, .int .i64 0, .bool true, .int .i64 0, .int .i64 0]) (w := w6) (w' := w6) rfl (by kernel_rfl) ?_
             try simp only [Act.put, List.setIfInBounds_toArray, List.set_cons_zero, List.set_cons_succ]
             refine wpList_exec (v := .agg #[Value.int .i64 3, .bool true, .int .i64 0, .int .i64 0]) (w := w6) (w' := w6) rfl (by kernel_rfl) ?_
             try simp only [Act.put, List.setIfInBounds_toArray, List.set_cons_zero, List.set_cons_succ]
             refine wpList_exec (v := .agg #[Value.int .u8 0, .int .i64 3, .int .i64 3, .bool true, .int .i64 0, .int .i64 0]) (w := w6) (w' := w6) rfl (by kernel_rfl) ?_
             try simp only [Act.put, List.setIfInBounds_toArray, List.set_cons_zero, List.set_cons_succ]
             refine wpList_exec (v := .agg #[Value.int .i64 3, .bool false, .int .i64 0, .int .i64 0]) (w := w6) (w' := w6) rfl (by kernel_rfl) ?_
             try simp only [Act.put, List.setIfInBounds_toArray, List.set_cons_zero, List.set_cons_succ]
             refine wpList_exec (v := .agg #[Value.int .u8 0, .int .i64 4, .int .i64 3, .bool false, .int .i64 0, .int .i64 0]) (w := w6) (w' := w6) rfl (by kernel_rfl) ?_
             try simp only [Act.put, List.setIfInBounds_toArray, List.set_cons_zero, List.set_cons_succ]
             refine wpList_exec (v := .agg #[Value.int .i64 3, .bool false, .int .i64 0, .int .i64 0]) (w := w6) (w' := w6) rfl (by kernel_rfl) ?_
             try simp only [Act.put, List.setIfInBounds_toArray, List.set_cons_zero, List.set_cons_succ]
             refine wpList_exec (v := .agg #[Value.int .u8 3, .int .i64 4, .int .i64 3, .bool false, .int .i64 0, .int .i64 0]) (w := w6) (w' := w6) rfl (by kernel_rfl) ?_
             try simp only [Act.put, List.setIfInBounds_toArray, List.set_cons_zero, List.set_cons_succ]
             refine wpList_exec (v := .agg #[Value.int .i64 4, .bool false, .int .i64 0, .int .i64 0]) (w := w6) (w' := w6) rfl (by kernel_rfl) ?_
             try simp only [Act.put, List.setIfInBounds_toArray, List.set_cons_zero, List.set_cons_succ]
             refine wpList_exec (v := .agg #[Value.int .u8 3, .int .i64 4, .int .i64 4, .bool false, .int .i64 0, .int .i64 0]) (w := w6) (w' := w6) rfl (by kernel_rfl) ?_
             try simp only [Act.put, List.setIfInBounds_toArray, List.set_cons_zero, List.set_cons_succ]
             refine wpList_exec (v := .agg #[Value.int .i64 0, .bool false, .int .i64 0, .int .i64 0]) (w := w6) (w' := w6) rfl (by kernel_rfl) ?_
             try simp only [Act.put, List.setIfInBounds_toArray, List.set_cons_zero, List.set_cons_succ]
             refine wpList_exec (v := .agg #[Value.int .u8 2, .int .i64 3, .int .i64 0, .bool false, .int .i64 0, .int .i64 0]) (w := w6) (w' := w6) rfl (by kernel_rfl) ?_
             try simp only [Act.put, List.setIfInBounds_toArray, List.set_cons_zero, List.set_cons_succ]
             refine wpList_exec (v := .agg #[Value.int .i64 0, .bool false, .int .i64 0, .int .i64 0]) (w := w6) (w' := w6) rfl (by kernel_rfl) ?_
             try simp only [Act.put, List.setIfInBounds_toArray, List.set_cons_zero, List.set_cons_succ]
             refine wpList_exec (v := .agg #[Value.int .u8 2, .int .i64 3, .int .i64 0, .bool false, .int .i64 0, .int .i64 0]) (w := w6) (w' := w6) rfl (by kernel_rfl) ?_
             try simp only [Act.put, List.setIfInBounds_toArray, List.set_cons_zero, List.set_cons_succ]
             refine wpList_exec (v := .agg #[Value.int .i64 3, .bool false, .int .i64 0, .int .i64 0]) (w := w6) (w' := w6) rfl (by kernel_rfl) ?_
             try simp only [Act.put, List.setIfInBounds_toArray, List.set_cons_zero, List.set_cons_succ]
             refine wpList_exec (v := .agg #[Value.int .u8 0, .int .i64 4, .int .i64 3, .bool false, .int .i64 0, .int .i64 0]) (w := w6) (w' := w6) rfl (by kernel_rfl) ?_
             try simp only [Act.put, List.setIfInBounds_toArray, List.set_cons_zero, List.set_cons_succ]
             refine wpList_exec (v := .agg #[Value.int .i64 3, .bool false, .int .i64 0, .int .i64 0]) (w := w6) (w' := w6) rfl (by kernel_rfl) ?_
             try simp only [Act.put, List.setIfInBounds_toArray, List.set_cons_zero, List.set_cons_succ]
             refine wpList_exec (v := .agg #[Value.int .u8 0, .int .i64 5, .int .i64 3, .bool false, .int .i64 0, .int .i64 0]) (w := w6) (w' := w6) rfl (by kernel_rfl) ?_
             try simp only [Act.put, List.setIfInBounds_toArray, List.set_cons_zero, List.set_cons_succ]
             refine wpList_exec (v := .agg #[Value.int .i64 0, .bool false, .int .i64 0, .int .i64 0]) (w := w6) (w' := w6) rfl (by kernel_rfl) ?_
             try simp only [Act.put, List.setIfInBounds_toArray, List.set_cons_zero, List.set_cons_succ]
             refine wpList_exec (v := .agg #[Value.int .u8 2, .int .i64 1, .int .i64 0, .bool false, .int .i64 0, .int .i64 0]) (w := w6) (w' := w6) rfl (by kernel_rfl) ?_
             try simp only [Act.put, List.setIfInBounds_toArray, List.set_cons_zero, List.set_cons_succ]
             refine wpList_exec (v := .agg #[Value.int .i64 0, .bool false, .int .i64 0, .int .i64 0]) (w := w6) (w' := w6) rfl (by kernel_rfl) ?_
             try simp only [Act.put, List.setIfInBounds_toArray, List.set_cons_zero, List.set_cons_succ]
             refine wpList_exec (v := .agg #[Value.int .u8 2, .int .i64 2, .int .i64 0, .bool false, .int .i64 0, .int .i64 0]) (w := w6) (w' := w6) rfl (by kernel_rfl) ?_
             try simp only [Act.put, List.setIfInBounds_toArray, List.set_cons_zero, List.set_cons_succ]
             refine wpList_exec (v := .agg #[Value.int .i64 0, .bool false, .int .i64 5, .int .i64 5]) (w := w6) (w' := w6) rfl (by kernel_rfl) ?_
             try simp only [Act.put, List.setIfInBounds_toArray, List.set_cons_zero, List.set_cons_succ]
             refine wpList_exec (v := .agg #[Value.int .u8 0, .int .i64 6, .int .i64 0, .bool false, .int .i64 5, .int .i64 5]) (w := w6) (w' := w6) rfl (by kernel_rfl) ?_
             try simp only [Act.put, List.setIfInBounds_toArray, List.set_cons_zero, List.set_cons_succ]
             refine wpList_exec (v := .slice (some ⟨(w6).heap.size, 0, none⟩) 20 20) (w := w6) (w' := (aw1 w6)) rfl (by kernel_rfl) ?_
             try simp only [Act.put, List.setIfInBounds_toArray, List.set_cons_zero, List.set_cons_succ])
          | (refine wpList_exec_at (v := .agg #[Value.int .i64 0, .int .i64 0, .int .i64 0]) (w := (aw1 w6)) (w' := (aw1 w6)) (n := 90) rfl rfl (by kernel_rfl) ?_
             try simp only [Act.put, List.setIfInBounds_toArray, List.set_cons_zero, List.set_cons_succ]
             refine wpList_exec (v := .agg #[Value.int .i64 1, .int .i64 1, .int .i64 1]) (w := (aw1 w6)) (w' := (aw1 w6)) rfl (by kernel_rfl) ?_
             try simp only [Act.put, List.setIfInBounds_toArray, List.set_cons_zero, List.set_cons_succ]
             refine wpList_exec (v := .int .i64 4611686018427387904) (w := (aw1 w6)) (w' := (aw1 w6)) rfl (by kernel_rfl) ?_
             try simp only [Act.put, List.setIfInBounds_toArray, List.set_cons_zero, List.set_cons_succ]
             refine wpList_exec (v := .int .i64 4611686018427387904) (w := (aw1 w6)) (w' := (aw1 w6)) rfl (by kernel_rfl) ?_
             try simp only [Act.put, List.setIfInBounds_toArray, List.set_cons_zero, List.set_cons_succ]
             refine wpList_exec (v := .int .i64 4611686018427387904) (w := (aw1 w6)) (w' := (aw1 w6)) rfl (by kernel_rfl) ?_
             try simp only [Act.put, List.setIfInBounds_toArray, List.set_cons_zero, List.set_cons_succ]
             refine wpList_exec (v := .agg #[Value.int .i64 4611686018427387904, .int .i64 4611686018427387904, .int .i64 4611686018427387904]) (w := (aw1 w6)) (w' := (aw1 w6)) rfl (by kernel_rfl) ?_
             try simp only [Act.put, List.setIfInBounds_toArray, List.set_cons_zero, List.set_cons_succ]
             refine wpList_exec (v := .int .i64 4611686018427387904) (w := (aw1 w6)) (w' := (aw1 w6)) rfl (by kernel_rfl) ?_
             try simp only [Act.put, List.setIfInBounds_toArray, List.set_cons_zero, List.set_cons_succ]
             refine wpList_exec (v := .int .i64 4611686018427387904) (w := (aw1 w6)) (w' := (aw1 w6)) rfl (by kernel_rfl) ?_
             try simp only [Act.put, List.setIfInBounds_toArray, List.set_cons_zero, List.set_cons_succ]
             refine wpList_exec (v := .agg #[Value.int .i64 5, .int .i64 4611686018427387904, .int .i64 4611686018427387904]) (w := (aw1 w6)) (w' := (aw1 w6)) rfl (by kernel_rfl) ?_
             try simp only [Act.put, List.setIfInBounds_toArray, List.set_cons_zero, List.set_cons_succ]
             refine wpList_exec (v := .agg #[Value.int .i64 3, .int .i64 9, .int .i64 9]) (w := (aw1 w6)) (w' := (aw1 w6)) rfl (by kernel_rfl) ?_
             try simp only [Act.put, List.setIfInBounds_toArray, List.set_cons_zero, List.set_cons_succ]
             refine wpList_exec (v := .agg #[Value.int .i64 (-1), .int .i64 0, .int .i64 0]) (w := (aw1 w6)) (w' := (aw1 w6)) rfl (by kernel_rfl) ?_
             try simp only [Act.put, List.setIfInBounds_toArray, List.set_cons_zero, List.set_cons_succ]
             refine wpList_exec (v := .agg #[Value.int .i64 0, .int .i64 (-1), .int .i64 0]) (w := (aw1 w6)) (w' := (aw1 w6)) rfl (by kernel_rfl) ?_
             try simp only [Act.put, List.setIfInBounds_toArray, List.set_cons_zero, List.set_cons_succ]
             refine wpList_exec (v := .agg #[Value.int .i64 0, .int .i64 0, .int .i64 (-1)]) (w := (aw1 w6)) (w' := (aw1 w6)) rfl (by kernel_rfl) ?_
             try simp only [Act.put, List.setIfInBounds_toArray, List.set_cons_zero, List.set_cons_succ]
             refine wpList_exec (v := .int .i64 4611686018427387904) (w := (aw1 w6)) (w' := (aw1 w6)) rfl (by kernel_rfl) ?_
             try simp only [Act.put, List.setIfInBounds_toArray, List.set_cons_zero, List.set_cons_succ]
             refine wpList_exec (v := .int .i64 4611686018427387905) (w := (aw1 w6)) (w' := (aw1 w6)) rfl (by kernel_rfl) ?_
             try simp only [Act.put, List.setIfInBounds_toArray, List.set_cons_zero, List.set_cons_succ]
             refine wpList_exec (v := .agg #[Value.int .i64 4611686018427387905, .int .i64 0, .int .i64 0]) (w := (aw1 w6)) (w' := (aw1 w6)) rfl (by kernel_rfl) ?_
             try simp only [Act.put, List.setIfInBounds_toArray, List.set_cons_zero, List.set_cons_succ]
             refine wpList_exec (v := .int .i64 4611686018427387904) (w := (aw1 w6)) (w' := (aw1 w6)) rfl (by kernel_rfl) ?_
             try simp only [Act.put, List.setIfInBounds_toArray, List.set_cons_zero, List.set_cons_succ]
             refine wpList_exec (v := .int .i64 4611686018427387905) (w := (aw1 w6)) (w' := (aw1 w6)) rfl (by kernel_rfl) ?_
             try simp only [Act.put, List.setIfInBounds_toArray, List.set_cons_zero, List.set_cons_succ]
             refine wpList_exec (v := .agg #[Value.int .i64 0, .int .i64 4611686018427387905, .int .i64 0]) (w := (aw1 w6)) (w' := (aw1 w6)) rfl (by kernel_rfl) ?_
             try simp only [Act.put, List.setIfInBounds_toArray, List.set_cons_zero, List.set_cons_succ]
             refine wpList_exec (v := .int .i64 4611686018427387904) (w := (aw1 w6)) (w' := (aw1 w6)) rfl (by kernel_rfl) ?_
             try simp only [Act.put, List.setIfInBounds_toArray, List.set_cons_zero, List.set_cons_succ]
             refine wpList_exec (v := .int .i64 4611686018427387905) (w := (aw1 w6)) (w' := (aw1 w6)) rfl (by kernel_rfl) ?_
             try simp only [Act.put, List.setIfInBounds_toArray, List.set_cons_zero, List.set_cons_succ]
             refine wpList_exec (v := .agg #[Value.int .i64 0, .int .i64 0, .int .i64 4611686018427387905]) (w := (aw1 w6)) (w' := (aw1 w6)) rfl (by kernel_rfl) ?_
             try simp only [Act.put, List.setIfInBounds_toArray, List.set_cons_zero, List.set_cons_succ]
             refine wpList_exec (v := .slice (some ⟨((aw1 w6)).heap.size, 0, none⟩) 11 11) (w := (aw1 w6)) (w' := (aw2 w6)) rfl (by kernel_rfl) ?_
             try simp only [Act.put, List.setIfInBounds_toArray, List.set_cons_zero, List.set_cons_succ, aw1_size])
          | fail)
  -- END ARMS
  have HKB := Lib.hid ((bk_at w6 35 kcells _ rfl).alloc (Obj.cells pcells 23))
  have HPB := Lib.hid (bk_at (aw1 w6) 23 pcells (w6.heap.size + 1) (aw1_size w6))
  have HCS : Hid (CallsAt (aw2 w6) (.slice (some ⟨w6.heap.size, 0, none⟩) 20 20) knownCalls) := known_calls HKB.out
  have HCP : Hid (∀ (k : Nat) (c : CapD), knownCaps[k]? = some c → ∀ j u, c.vals3[j]? = some u → (aw2 w6).cell? ⟨w6.heap.size + 1, k * 3 + j, none⟩ = some u) := known_caps HPB.out
  have HFA := Lib.hid (HF6.out.trans0 (aw2_fr w6))
  have hlc : knownCaps.length = 11 := rfl
  clear HKB HPB HF6
  generalize knownCalls = L at *
  generalize knownCaps = PL at *
  generalize w6.heap.size = s6 at *
  change Code.wp Try.prog _ _ _ (aw2 w6)
  generalize aw2 w6 = w7 at *
  go_loopw [8, 114] (fun _ vi wr => ∃ k : Nat, k ≤ 11 ∧ vi = .int .i64 k ∧ Fr w7 wr Nil) (fun _ vi _ => 11 - (intOf vi).toNat)
  case atStart => exact ⟨0, by omega, rfl, Fr.refl _ _⟩
  case round =>
    obtain ⟨k, hk, rfl, hf⟩ := hrel
    have Hf := Lib.hid hf
    obtain ⟨wo, rfl⟩ : ∃ wo : World, wo = wr := ⟨_, rfl⟩
    clear hf
    by_cases hlt : k < 11
    · obtain ⟨c, hc⟩ : ∃ c, PL[k]? = some c := ⟨_, List.getElem?_eq_getElem (show k < PL.length by omega)⟩
      have p0 := Hf.out.cell (HCP.out k c hc 0 _ rfl) (fun h => h)
      have p1 := Hf.out.cell (HCP.out k c hc 1 _ rfl) (fun h => h)
      have p2 := Hf.out.cell (HCP.out k c hc 2 _ rfl) (fun h => h)
      simp only [Nat.add_zero] at p0
      have hk2 : (k : Int) < 11 := by omega
      have HB0 := Lib.hid (bk_at wo 23 #[.int .i64 c.n, .int .i64 c.l, .int .i64 c.u] _ rfl)
      have Hf1 := Lib.hid (Hf.out.alloc (.cells #[.int .i64 c.n, .int .i64 c.l, .int .i64 c.u] 23))
      have r0 := HB0.out.cell 0
      have r1 := HB0.out.cell 1
      have r2 := HB0.out.cell 2
      simp only [List.getElem?_cons_zero, List.getElem?_cons_succ] at r0 r1 r2
      clear hc
      go_wp2_with fail
      refine (aplays_any c _ L _ (HCS.out.fr0 Hf1.out)).mono ?_
      rintro e w8 ⟨rfl, hf8⟩
      have HB8 := Lib.hid (HB0.out.fr hf8 fun h => h)
      have Hf8 := Lib.hid (Hf1.out.trans0 hf8)
      clear hf8 HB0 Hf1 r0 r1 r2 p0 p1 p2
      have r0 := HB8.out.cell 0
      have r1 := HB8.out.cell 1
      have r2 := HB8.out.cell 2
      simp only [List.getElem?_cons_zero, List.getElem?_cons_succ] at r0 r1 r2
      go_wp2_with fail
      refine (afits_any c _ L _ (HCS.out.fr0 Hf8.out)).mono ?_
      rintro e w9 ⟨rfl, hf9⟩
      have HB9 := Lib.hid (HB8.out.fr hf9 fun h => h)
      have Hf9 := Lib.hid (Hf8.out.trans0 hf9)
      clear hf9 HB8 Hf8 r0 r1 r2
      have r0 := HB9.out.cell 0
      have r1 := HB9.out.cell 1
      have r2 := HB9.out.cell 2
      simp only [List.getElem?_cons_zero, List.getElem?_cons_succ] at r0 r1 r2
      go_wp2_with fail
      refine (amore_any c _ L 43690 ⟨9, false, 1, 0⟩ _ (HCS.out.fr0 Hf9.out)).mono ?_
      rintro e w10 ⟨rfl, hf10⟩
      have Hf10 := Lib.hid (Hf9.out.trans0 hf10)
      clear hf10 HB9 Hf9 r0 r1 r2
      go_wp2_with fail
      go_roundw
      case rel => exact ⟨k + 1, by omega, by go_num, Hf10.out⟩
      case measure => simp [intOf]; omega
    · have hk3 : ¬ (k : Int) < 11 := by omega
      have HFw := Lib.hid (HFA.out.trans0 Hf.out)
      go_wp2_with fail
      refine (works_any _).mono ?_
      rintro e w9 ⟨rfl, hf9⟩
      have HF9 := Lib.hid (HFw.out.trans0 hf9)
      clear hf9
      go_wp2_with fail
      go_ret
      exact ⟨rfl, HF9.out⟩
end
end Go.Proofs.Ytplebgcgoigigaa
