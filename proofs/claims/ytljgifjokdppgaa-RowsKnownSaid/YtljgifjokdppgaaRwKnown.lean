/-
  Walk of the law RowsKnown.
  No condition.
-/
import Derived.Test.YtljgifjokdppgaaRwNil
import Derived.Test.YtljgifjokdppgaaRwPlays
import Derived.Test.YtljgifjokdppgaaRwKeeps
import Derived.Test.YtljgifjokdppgaaRwKnownMem
namespace Go.Proofs.Ytljgifjokdppgaa
open Go Go.RowKit

theorem known_len : ∀ xs ∈ knownC, xs.length ≤ 65 := by decide
theorem made_bk {w : World} {b : Nat} {e : TypeId} (h : Bk w b e (madeCells #[Value.int .i64 0] 64).toList) : Bk w b e ((List.replicate 0 (1 : Int) ++ List.replicate (64 - 0) 0).map (Value.int .i64)) := by
  rw [made_map] at h
  exact h
theorem fill_one {i : Nat} (h : i < 64) : ((List.replicate i (1 : Int) ++ List.replicate (64 - i) 0).map (Value.int .i64)).set i (.int .i64 1) = (List.replicate (i + 1) (1 : Int) ++ List.replicate (64 - (i + 1)) 0).map (Value.int .i64) := by
  rw [show 64 - i = (64 - (i + 1)) + 1 by omega, List.replicate_succ, List.replicate_succ']
  simp only [List.map_append, List.map_cons, List.map_replicate, List.append_assoc, List.singleton_append]
  have : i = (List.replicate i (Value.int .i64 1)).length := by simp
  conv => lhs; rw [List.set_append_right _ _ (by simp)]
  simp
theorem known_drop {w : World} {bL : Nat} {L : List CallD} (h : CallsAt w (.slice (some ⟨bL, 0, none⟩) 17 17) L) (hL : L.length = 17) (i : Nat) (hi : i ≤ 17) : CallsAt w (.slice (some ⟨bL, i * 6, none⟩) (17 - i) (17 - i)) (L.drop i) := by
  have := h.drop i (17 - i) (by omega)
  rw [Nat.zero_add] at this
  exact this
theorem known_info : (Try.prog.info? 3).map (fun i => (i.zero, i.size, i.bytes)) = some (some (.int .i64 0), 1, 8) := by kernel_rfl
theorem wpList_exec {P : Program} {ops : Array Oper} {rest : List Oper} {o : Oper} {a : Act} {Q : Exit → Act → World → Prop} {w w' : World} {v : Value} (hg : o.guard = none) (hrun : (execOp a.eval o).run P w = .ok (.value v) w') (hK : wpList P ops Q rest (a.put o.dst v) w') : wpList P ops Q (o :: rest) a w :=
  wpList_plain hg fun K hK' => by unfold Oper.wp; rw [hrun]; exact hK' _ _ hK
/-- append onto a slice that is full: new memory. -/
theorem wpList_app_full {ops : Array Oper} {rest : List Oper} {o : Oper} {a : Act} {Q : Exit → Act → World → Prop} {w : World} (hgd : o.guard = none) (s x : Operand) (ho : o.op = .call { callee := .builtin .append, args := #[s, x], argTypes := #[29, 29] })
    (g b n : Nat) (xs : List Int) (y : Int) (hn : n = xs.length) (hl : n ≤ 1000) (hs : a.eval s = .slice (some ⟨g, 0, none⟩) n n) (hx : a.eval x = .slice (some ⟨b, 0, none⟩) 1 1) (h : IntsAt w (.slice (some ⟨g, 0, none⟩) n n) xs) (hb : Bk w b 3 [.int .i64 y])
    (hK : ∀ c w', IntsAt w' (.slice (some ⟨w.heap.size, 0, none⟩) (n + 1) c) (xs ++ [y]) → Fr w w' Nil → wpList Try.prog ops Q rest (a.put o.dst (.slice (some ⟨w.heap.size, 0, none⟩) (n + 1) c)) w') : wpList Try.prog ops Q (o :: rest) a w := by
  obtain ⟨i, hi, hz, hsz, hby⟩ := info_parts known_info
  have holds : ∀ j v, (xs.map (Value.int .i64))[j]? = some v → w.cell? ((⟨g, 0, none⟩ : Addr).add j) = some v := by
    rcases h with ⟨h, _⟩ | ⟨a', cap, h, hc⟩
    · cases h
    · cases h; exact hc
  have hnews : ∀ j v, [Value.int .i64 y][j]? = some v → w.cell? ((⟨b, 0, none⟩ : Addr).add j) = some v := fun j v hv => by
    rw [Addr.add_lit, Nat.zero_add, hb.cell j]
    exact hv
  have hr := run_append_grow (P := Try.prog) w 29 o.type 3 i (.int .i64 0) Try.underlying29 hi hz ⟨g, 0, none⟩ n n (xs.map (Value.int .i64)) (by rw [hsz]; simp [hn]) holds ⟨b, 0, none⟩ 1 1 [Value.int .i64 y] (by rw [hsz]; rfl) hnews (by omega) (by omega) (growslice_fits (by omega) (by rw [hby]; omega))
  refine wpList_plain hgd fun K hK' => ?_
  unfold Oper.wp execOp
  simp only [ho, resolve, invoke, builtin, Sem.run_bind, Sem.run_pure, Result.andThen_ok, List.map_toArray, List.map_cons, List.map_nil, hs, hx, hr]
  refine hK' _ _ (hK (grownCap w (n + 1) n 3) _ (.inr ⟨⟨w.heap.size, 0, none⟩, grownCap w (n + 1) n 3, by rw [show (xs ++ [y]).length = n + 1 by simp [hn]], fun j u hu => ?_⟩) ((Fr.refl w Nil).drew.alloc _))
  rw [Addr.add_lit, Nat.zero_add]
  have hbk := Bk.new w.drew 3 ((xs.map (Value.int .i64)).toArray ++ [Value.int .i64 y].toArray ++ Builtin.zeroCells (Value.int .i64 0).cells (grownCap w (n + 1) n 3 - (n + 1)))
  have hc := hbk.cell j
  have hj := (List.getElem?_eq_some_iff.1 hu).1
  rw [show w.drew.heap.size = w.heap.size from rfl] at hc
  rw [hc, Array.toList_append, List.getElem?_append_left (by simpa using hj)]
  simpa using hu
set_option maxRecDepth 100000 in
set_option maxHeartbeats 1000000 in
theorem known_any (w : World) : Calls Try.prog 7 #[] w fun e w' => e = .returned (.bool true) ∧ Fr w w' Nil := by
  go_enter Try.func7, Try.ntmps7
  go_wp2_with fail
  refine (get_nil 0 0 w).mono ?_
  rintro e w1 ⟨rfl, hf⟩
  have HF := Lib.hid hf
  clear hf
  go_wp2_with fail
  refine (set_nil 0 0 0 0 w1).mono ?_
  rintro e w2 ⟨rfl, hf⟩
  have HF2 := Lib.hid (HF.out.trans0 hf)
  clear hf HF
  go_wp2_with fail
  refine (del_nil 0 0 w2).mono ?_
  rintro e w3 ⟨rfl, hf⟩
  have HF3 := Lib.hid (HF2.out.trans0 hf)
  clear hf HF2
  go_wp2_with fail
  refine (put_nil 0 0 (.slice none 0 0) w3).mono ?_
  rintro e w4 ⟨rfl, hf⟩
  have HF4 := Lib.hid (HF3.out.trans0 hf)
  clear hf HF3
  go_wp2_with fail
  refine (tables_nil w4).mono ?_
  rintro e w5 ⟨rfl, rfl⟩
  go_wp2_with fail
  refine (cols_nil 0 w4).mono ?_
  rintro e w5 ⟨rfl, hf⟩
  have HF5 := Lib.hid (HF4.out.trans0 hf)
  clear hf HF4
  go_wp2_with fail
  refine (sum_nil 0 w5).mono ?_
  rintro e w6 ⟨rfl, hf⟩
  have HF6 := Lib.hid (HF5.out.trans0 hf)
  clear hf HF5
  go_wp2_with fail
  refine (all_nil 0 w6).mono ?_
  rintro e w7 ⟨rfl, hf⟩
  have HF7 := Lib.hid (HF6.out.trans0 hf)
  clear hf HF6
  go_wp2_with fail
  refine (len_nil 0 w7).mono ?_
  rintro e w8 ⟨rfl, hf⟩
  have HF8 := Lib.hid (HF7.out.trans0 hf)
  clear hf HF7
  go_wp2_with fail
  refine (copy_nil w8).mono ?_
  rintro e w9 ⟨rfl, rfl⟩
  go_wp2_with fail
  refine (same_nn w8).mono ?_
  rintro e w9 ⟨rfl, hf⟩
  have HF9 := Lib.hid (HF8.out.trans0 hf)
  clear hf HF8
  go_wp2_with fail
  refine (api_new _ [] _ (.inl ⟨rfl, rfl⟩) (by decide)).mono ?_
  rintro e w10 hr
  rcases hr with ⟨_, r, S1, rfl, hr, or', hfr⟩ | ⟨hno, _⟩
  rotate_left
  · exact absurd (⟨by decide, fun n hn => by cases hn⟩ : colsOk []) hno
  have HR := Lib.hid hr
  have HF10 := Lib.hid (HF9.out.trans0 hfr)
  clear hr or' hfr HF9
  go_wp2_with fail
  refine (api_tables HR.out ⟨(fun T hT => by cases hT), by decide⟩).mono ?_
  rintro e w11 ⟨rfl, rfl⟩
  go_wp2_with fail
  refine (same_rn r w10).mono ?_
  rintro e w11 ⟨rfl, hf⟩
  have HF11 := Lib.hid (HF10.out.trans0 hf)
  clear hf HF10 HR
  go_wp2_with fail
  refine (same_nr r w11).mono ?_
  rintro e w12 ⟨rfl, hf⟩
  have HF12 := Lib.hid (HF11.out.trans0 hf)
  clear hf HF11
  obtain ⟨i0, hi0, hz0, hz1, hz2⟩ := info_parts known_info
  -- ARMS
  go_wp2_with (first
          | (refine wpList_exec (v := .slice (some ⟨w12.heap.size, 0, none⟩) 2 2) (w := w12) (w' := (kw1 w12)) rfl (by kernel_rfl) ?_
             try simp only [Act.put, List.setIfInBounds_toArray, List.set_cons_zero, List.set_cons_succ]
             refine wpList_exec (v := .agg #[Value.int .u8 0, .int .i64 0, .int .i64 5, .int .i64 0, .int .i64 0, .slice (some ⟨w12.heap.size, 0, none⟩) 2 2]) (w := (kw1 w12)) (w' := (kw1 w12)) rfl (by kernel_rfl) ?_
             try simp only [Act.put, List.setIfInBounds_toArray, List.set_cons_zero, List.set_cons_succ]
             refine wpList_exec (v := .slice (some ⟨(kw1 w12).heap.size, 0, none⟩) 2 2) (w := (kw1 w12)) (w' := (kw2 w12)) rfl (by kernel_rfl) ?_
             try simp only [Act.put, List.setIfInBounds_toArray, List.set_cons_zero, List.set_cons_succ, kw1_size]
             refine wpList_exec (v := .agg #[Value.int .u8 1, .int .i64 0, .int .i64 (-9223372036854775808), .int .i64 0, .int .i64 0, .slice (some ⟨w12.heap.size + 1, 0, none⟩) 2 2]) (w := (kw2 w12)) (w' := (kw2 w12)) rfl (by kernel_rfl) ?_
             try simp only [Act.put, List.setIfInBounds_toArray, List.set_cons_zero, List.set_cons_succ]
             refine wpList_exec (v := .slice (some ⟨(kw2 w12).heap.size, 0, none⟩) 2 2) (w := (kw2 w12)) (w' := (kw3 w12)) rfl (by kernel_rfl) ?_
             try simp only [Act.put, List.setIfInBounds_toArray, List.set_cons_zero, List.set_cons_succ, kw2_size]
             refine wpList_exec (v := .agg #[Value.int .u8 2, .int .i64 0, .int .i64 5, .int .i64 0, .int .i64 0, .slice (some ⟨w12.heap.size + 1 + 1, 0, none⟩) 2 2]) (w := (kw3 w12)) (w' := (kw3 w12)) rfl (by kernel_rfl) ?_
             try simp only [Act.put, List.setIfInBounds_toArray, List.set_cons_zero, List.set_cons_succ]
             refine wpList_exec (v := .slice (some ⟨(kw3 w12).heap.size, 0, none⟩) 1 1) (w := (kw3 w12)) (w' := (kw4 w12)) rfl (by kernel_rfl) ?_
             try simp only [Act.put, List.setIfInBounds_toArray, List.set_cons_zero, List.set_cons_succ, kw3_size]
             refine wpList_exec (v := .agg #[Value.int .u8 3, .int .i64 1, .int .i64 5, .int .i64 0, .int .i64 0, .slice (some ⟨w12.heap.size + 1 + 1 + 1, 0, none⟩) 1 1]) (w := (kw4 w12)) (w' := (kw4 w12)) rfl (by kernel_rfl) ?_
             try simp only [Act.put, List.setIfInBounds_toArray, List.set_cons_zero, List.set_cons_succ]
             refine wpList_exec (v := .slice (some ⟨(kw4 w12).heap.size, 0, none⟩) 2 2) (w := (kw4 w12)) (w' := (kw5 w12)) rfl (by kernel_rfl) ?_
             try simp only [Act.put, List.setIfInBounds_toArray, List.set_cons_zero, List.set_cons_succ, kw4_size]
             refine wpList_exec (v := .agg #[Value.int .u8 0, .int .i64 1, .int .i64 5, .int .i64 0, .int .i64 0, .slice (some ⟨w12.heap.size + 1 + 1 + 1 + 1, 0, none⟩) 2 2]) (w := (kw5 w12)) (w' := (kw5 w12)) rfl (by kernel_rfl) ?_
             try simp only [Act.put, List.setIfInBounds_toArray, List.set_cons_zero, List.set_cons_succ]
             refine wpList_exec (v := .slice (some ⟨(kw5 w12).heap.size, 0, none⟩) 1 1) (w := (kw5 w12)) (w' := (kw6 w12)) rfl (by kernel_rfl) ?_
             try simp only [Act.put, List.setIfInBounds_toArray, List.set_cons_zero, List.set_cons_succ, kw5_size]
             refine wpList_exec (v := .agg #[Value.int .u8 0, .int .i64 2, .int .i64 5, .int .i64 0, .int .i64 0, .slice (some ⟨w12.heap.size + 1 + 1 + 1 + 1 + 1, 0, none⟩) 1 1]) (w := (kw6 w12)) (w' := (kw6 w12)) rfl (by kernel_rfl) ?_
             try simp only [Act.put, List.setIfInBounds_toArray, List.set_cons_zero, List.set_cons_succ]
             refine wpList_exec (v := .agg #[Value.int .u8 0, .int .i64 (-1), .int .i64 5, .int .i64 0, .int .i64 0, .slice none 0 0]) (w := (kw6 w12)) (w' := (kw6 w12)) rfl (by kernel_rfl) ?_
             try simp only [Act.put, List.setIfInBounds_toArray, List.set_cons_zero, List.set_cons_succ]
             refine wpList_exec (v := .agg #[Value.int .u8 4, .int .i64 0, .int .i64 5, .int .i64 1, .int .i64 9, .slice none 0 0]) (w := (kw6 w12)) (w' := (kw6 w12)) rfl (by kernel_rfl) ?_
             try simp only [Act.put, List.setIfInBounds_toArray, List.set_cons_zero, List.set_cons_succ]
             refine wpList_exec (v := .agg #[Value.int .u8 4, .int .i64 0, .int .i64 5, .int .i64 2, .int .i64 9, .slice none 0 0]) (w := (kw6 w12)) (w' := (kw6 w12)) rfl (by kernel_rfl) ?_
             try simp only [Act.put, List.setIfInBounds_toArray, List.set_cons_zero, List.set_cons_succ]
             refine wpList_exec (v := .agg #[Value.int .u8 4, .int .i64 0, .int .i64 5, .int .i64 (-1), .int .i64 9, .slice none 0 0]) (w := (kw6 w12)) (w' := (kw6 w12)) rfl (by kernel_rfl) ?_
             try simp only [Act.put, List.setIfInBounds_toArray, List.set_cons_zero, List.set_cons_succ]
             refine wpList_exec (v := .agg #[Value.int .u8 4, .int .i64 0, .int .i64 6, .int .i64 0, .int .i64 9, .slice none 0 0]) (w := (kw6 w12)) (w' := (kw6 w12)) rfl (by kernel_rfl) ?_
             try simp only [Act.put, List.setIfInBounds_toArray, List.set_cons_zero, List.set_cons_succ]
             refine wpList_exec (v := .agg #[Value.int .u8 4, .int .i64 2, .int .i64 6, .int .i64 0, .int .i64 9, .slice none 0 0]) (w := (kw6 w12)) (w' := (kw6 w12)) rfl (by kernel_rfl) ?_
             try simp only [Act.put, List.setIfInBounds_toArray, List.set_cons_zero, List.set_cons_succ]
             refine wpList_exec (v := .agg #[Value.int .u8 6, .int .i64 0, .int .i64 0, .int .i64 0, .int .i64 0, .slice none 0 0]) (w := (kw6 w12)) (w' := (kw6 w12)) rfl (by kernel_rfl) ?_
             try simp only [Act.put, List.setIfInBounds_toArray, List.set_cons_zero, List.set_cons_succ]
             refine wpList_exec (v := .agg #[Value.int .u8 5, .int .i64 0, .int .i64 5, .int .i64 0, .int .i64 0, .slice none 0 0]) (w := (kw6 w12)) (w' := (kw6 w12)) rfl (by kernel_rfl) ?_
             try simp only [Act.put, List.setIfInBounds_toArray, List.set_cons_zero, List.set_cons_succ]
             refine wpList_exec (v := .agg #[Value.int .u8 5, .int .i64 0, .int .i64 5, .int .i64 0, .int .i64 0, .slice none 0 0]) (w := (kw6 w12)) (w' := (kw6 w12)) rfl (by kernel_rfl) ?_
             try simp only [Act.put, List.setIfInBounds_toArray, List.set_cons_zero, List.set_cons_succ]
             refine wpList_exec (v := .agg #[Value.int .u8 5, .int .i64 2, .int .i64 5, .int .i64 0, .int .i64 0, .slice none 0 0]) (w := (kw6 w12)) (w' := (kw6 w12)) rfl (by kernel_rfl) ?_
             try simp only [Act.put, List.setIfInBounds_toArray, List.set_cons_zero, List.set_cons_succ]
             refine wpList_exec (v := .agg #[Value.int .u8 7, .int .i64 0, .int .i64 (-9223372036854775808), .int .i64 0, .int .i64 0, .slice none 0 0]) (w := (kw6 w12)) (w' := (kw6 w12)) rfl (by kernel_rfl) ?_
             try simp only [Act.put, List.setIfInBounds_toArray, List.set_cons_zero, List.set_cons_succ]
             refine wpList_exec (v := .slice (some ⟨(kw6 w12).heap.size, 0, none⟩) 17 17) (w := (kw6 w12)) (w' := (kw7 w12)) rfl (by kernel_rfl) ?_
             try simp only [Act.put, List.setIfInBounds_toArray, List.set_cons_zero, List.set_cons_succ, kw6_size])
          | (refine wpList_exec (v := .slice (some ⟨(kw7 w12).heap.size, 0, none⟩) 2 2) (w := (kw7 w12)) (w' := (kw8 w12)) rfl (by kernel_rfl) ?_
             try simp only [Act.put, List.setIfInBounds_toArray, List.set_cons_zero, List.set_cons_succ, kw7_size]
             refine wpList_exec (v := .slice (some ⟨(kw8 w12).heap.size, 0, none⟩) 0 0) (w := (kw8 w12)) (w' := (kw9 w12)) rfl (by kernel_rfl) ?_
             try simp only [Act.put, List.setIfInBounds_toArray, List.set_cons_zero, List.set_cons_succ, kw8_size]
             refine wpList_exec (v := .slice (some ⟨(kw9 w12).heap.size, 0, none⟩) 1 1) (w := (kw9 w12)) (w' := (kw10 w12)) rfl (by kernel_rfl) ?_
             try simp only [Act.put, List.setIfInBounds_toArray, List.set_cons_zero, List.set_cons_succ, kw9_size]
             refine wpList_exec (v := .slice (some ⟨(kw10 w12).heap.size, 0, none⟩) 1 1) (w := (kw10 w12)) (w' := (kw11 w12)) rfl (by kernel_rfl) ?_
             try simp only [Act.put, List.setIfInBounds_toArray, List.set_cons_zero, List.set_cons_succ, kw10_size]
             refine wpList_exec (v := .slice (some ⟨(kw11 w12).heap.size, 0, none⟩) 2 2) (w := (kw11 w12)) (w' := (kw12 w12)) rfl (by kernel_rfl) ?_
             try simp only [Act.put, List.setIfInBounds_toArray, List.set_cons_zero, List.set_cons_succ, kw11_size]
             refine wpList_exec (v := .slice (some ⟨(kw12 w12).heap.size, 0, none⟩) 1 1) (w := (kw12 w12)) (w' := (kw13 w12)) rfl (by kernel_rfl) ?_
             try simp only [Act.put, List.setIfInBounds_toArray, List.set_cons_zero, List.set_cons_succ, kw12_size]
             have HC := Lib.hid (known_calls w12)
             have HS := Lib.hid (known_six w12)
             have HFW := Lib.hid (HF12.out.trans0 (kw13_fr w12))
             clear HF12
             generalize kw13 w12 = W at HC HS HFW ⊢
             refine wpList_make_row W rfl _ _ 29 rfl 3 i0 (.int .i64 0) Try.underlying29 hi0 hz0 hz1 rfl .i64 .i64 65 rfl rfl (by rw [hz2]; decide) (by decide) ?_
             try simp only [Act.put, List.setIfInBounds_toArray, List.set_cons_zero, List.set_cons_succ]
             refine wpList_exec (v := .slice (some ⟨(W.alloc (Obj.cells (madeCells #[Value.int .i64 0] 65) 3)).heap.size, 0, none⟩) 7 7) (w' := ((W.alloc (Obj.cells (madeCells #[Value.int .i64 0] 65) 3)).alloc (Obj.cells #[Value.slice (some ⟨w12.heap.size + 1 + 1 + 1 + 1 + 1 + 1 + 1, 0, none⟩) 2 2, Value.slice (some ⟨w12.heap.size + 1 + 1 + 1 + 1 + 1 + 1 + 1 + 1, 0, none⟩) 0 0, Value.slice (some ⟨w12.heap.size + 1 + 1 + 1 + 1 + 1 + 1 + 1 + 1 + 1, 0, none⟩) 1 1, Value.slice (some ⟨w12.heap.size + 1 + 1 + 1 + 1 + 1 + 1 + 1 + 1 + 1 + 1, 0, none⟩) 1 1, Value.slice (some ⟨w12.heap.size + 1 + 1 + 1 + 1 + 1 + 1 + 1 + 1 + 1 + 1 + 1, 0, none⟩) 2 2, Value.slice (some ⟨w12.heap.size + 1 + 1 + 1 + 1 + 1 + 1 + 1 + 1 + 1 + 1 + 1 + 1, 0, none⟩) 1 1, .slice (some ⟨W.heap.size, 0, none⟩) 65 65] 29))) rfl (by kernel_rfl) ?_
             try simp only [Act.put, List.setIfInBounds_toArray, List.set_cons_zero, List.set_cons_succ]
             rw [World.size_alloc]
             obtain ⟨W2, hW2, hf2, hcols⟩ := known_fin W _ _ _ _ _ _ HS.out
             rw [hW2]
             have HFW2 := Lib.hid (HFW.out.trans0 hf2)
             have HC2 := Lib.hid (HC.out.fr hf2)
             have HN := Lib.hid hcols
             clear hf2 hcols hW2 HS HC HFW)
          | fail)
  -- END ARMS
  obtain ⟨L, hL⟩ : ∃ L, L = knownL w12.heap.size := ⟨_, rfl⟩
  have HL17 : Hid (L.length = 17) := by rw [hL]; rfl
  rw [← hL] at HC2
  clear hL
  generalize w12.heap.size + 1 + 1 + 1 + 1 + 1 + 1 = bL at HC2 ⊢
  generalize W.heap.size + 1 = bC at HN ⊢
  go_loopw [142] (fun vj wr => ∃ j : Nat, j ≤ 7 ∧ vj = .int .i64 j ∧ Fr W2 wr Nil) (fun vj _ => 7 - (intOf vj).toNat)
  case atStart => exact ⟨0, by omega, rfl, Fr.refl _ _⟩
  case round =>
    obtain ⟨j, hj, rfl, hf⟩ := hrel
    have HF := Lib.hid hf
    clear hf
    by_cases hlt : j < 7
    · obtain ⟨xs, hxs⟩ : ∃ xs, knownC[j]? = some xs := ⟨_, List.getElem?_eq_getElem (show j < knownC.length from hlt)⟩
      obtain ⟨ax, cx, hcell, hints⟩ := HN.out j xs hxs
      have p0 := HF.out.cell hcell (fun h => h)
      have HI := Lib.hid (hints.fr HF.out fun _ _ h => h)
      have HXL : Hid (xs.length ≤ 65) := known_len xs (List.mem_of_getElem? hxs)
      have hj2 : (j : Int) < 7 := by omega
      clear hcell hints hxs
      go_wp2_with fail
      refine (plays_any _ _ xs L _ HI.out (by have := HXL.out; omega) (HC2.out.fr HF.out)).mono ?_
      rintro e w13 ⟨rfl, hf⟩
      have HF13 := Lib.hid hf
      clear hf
      go_wp2_with fail
      refine (same_any _ _ _ xs L (L.take 7) _ (HI.out.fr HF13.out fun _ _ h => h) (by have := HXL.out; omega) (HC2.out.fr (HF.out.trans0 HF13.out)) ((HC2.out.fr (HF.out.trans0 HF13.out)).take 7 _ (by have := HL17.out; omega))).mono ?_
      rintro e w14 ⟨rfl, hf⟩
      have HF14 := Lib.hid (HF.out.trans0 (HF13.out.trans0 hf))
      clear hf HF HF13
      go_wp2_with fail
      go_roundw
      case rel => exact ⟨j + 1, by omega, by go_num, HF14.out⟩
      case measure => simp [intOf]; omega
    · have hj7 : ¬ (j : Int) < 7 := by omega
      clear hlt hj
      have HFa := Lib.hid (HFW2.out.trans0 HF.out)
      have HCa := Lib.hid (HC2.out.fr HF.out)
      clear HF HFW2 HC2 HN
      go_wp2_with (first
        | (refine wpList_make_row wr rfl _ _ 29 rfl 3 i0 (.int .i64 0) Try.underlying29 hi0 hz0 hz1 rfl .i64 .i64 64 rfl rfl (by rw [hz2]; decide) (by decide) ?_)
        | fail)
      have HBF := Lib.hid (made_bk (Bk.new wr 3 (madeCells #[Value.int .i64 0] 64)))
      have HFb := Lib.hid ((Fr.refl wr Nil).alloc (Obj.cells (madeCells #[Value.int .i64 0] 64) 3))
      have hbf : ¬ wr.heap.size < wr.heap.size := by omega
      generalize hbF : wr.heap.size = bF at HBF ⊢
      have HbF : Hid (¬ bF < wr.heap.size) := by rw [hbF]; exact Nat.lt_irrefl _
      generalize wr.alloc (Obj.cells (madeCells #[Value.int .i64 0] 64) 3) = w20 at HBF HFb ⊢
      clear hbf hbF
      go_loopw [15] (fun vi wr2 => ∃ i : Nat, i ≤ 64 ∧ vi = .int .i64 i ∧ Bk wr2 bF 3 ((List.replicate i (1 : Int) ++ List.replicate (64 - i) 0).map (Value.int .i64)) ∧ Fr wr wr2 Nil) (fun vi _ => 64 - (intOf vi).toNat)
      case atStart => exact ⟨0, by omega, rfl, HBF.out, HFb.out⟩
      case round =>
        clear HBF HFb
        obtain ⟨i, hi, rfl, hb, hf⟩ := hrel
        have HB := Lib.hid hb
        have HF := Lib.hid hf
        clear hb hf
        by_cases hli : i < 64
        · have t0 := HB.out.free i
          have t1 : ∃ v, wr.cell? ⟨bF, i, none⟩ = some v := by
            rw [HB.out.cell i]
            exact ⟨_, List.getElem?_eq_getElem (by simp; omega)⟩
          obtain ⟨vv, t1⟩ := t1
          have hi2 : (i : Int) < 64 := by omega
          go_wp2_with fail
          go_roundw
          case rel =>
            have hb2 := HB.out.set i (.int .i64 1)
            rw [fill_one hli] at hb2
            exact ⟨i + 1, by omega, by go_num, hb2, HF.out.setCell (fun h => absurd h HbF.out) _⟩
          case measure => simp [intOf]; omega
        · have hi64 : ¬ (i : Int) < 64 := by omega
          have HB : Hid (Bk wr bF 3 ((List.replicate 64 (1 : Int)).map (Value.int .i64))) := by
            have h := HB.out
            obtain rfl : i = 64 := by omega
            rw [Nat.sub_self, List.replicate_zero, List.append_nil] at h
            exact h
          clear hli hi
          have HCb := Lib.hid (HCa.out.fr HF.out)
          have HFb := Lib.hid (HFa.out.trans0 HF.out)
          have HIF : Hid (IntsAt wr (.slice (some ⟨bF, 0, none⟩) 64 64) (List.replicate 64 1)) := intsAt_bk (b := bF) (e := 3) HB.out rfl
          clear HCa HFa HF HB HbF
          go_wp2_with fail
          go_loopw [16] (fun vi wr2 => ∃ i : Nat, i ≤ 17 ∧ vi = .int .i64 i ∧ Fr wr wr2 Nil) (fun vi _ => 17 - (intOf vi).toNat)
          case atStart => exact ⟨0, by omega, rfl, Fr.refl _ _⟩
          case round =>
            obtain ⟨i, hi, rfl, hf⟩ := hrel
            have HF := Lib.hid hf
            clear hf
            by_cases hli : i < 17
            · have hi2 : (i : Int) < 17 := by omega
              have hi3 : (i : Int) ≤ 17 := by omega
              have hcap : ((17 : Nat) == i) = false := by rw [beq_eq_false_iff_ne]; omega
              go_wp2_with fail
              refine (same_any _ _ _ [2, 1] (L.take i) L _ (intsAt_bk (Bk.new _ _ _) rfl) (by decide) (CallsAt.take ((HCb.out.fr HF.out).fr ((Fr.refl _ Nil).alloc _)) i _ (by have := HL17.out; omega)) ((HCb.out.fr HF.out).fr ((Fr.refl _ Nil).alloc _))).mono ?_
              rintro e w14 ⟨rfl, hf⟩
              have HF14 := Lib.hid (HF.out.trans0 (((Fr.refl _ Nil).alloc _).trans0 hf))
              clear hf HF
              go_wp2_with fail
              refine (keeps_any _ (L.drop i) 5 1 2 3 _ (known_drop (HCb.out.fr HF14.out) (by have := HL17.out; omega) i (by omega))).mono ?_
              rintro e w15 ⟨rfl, hf⟩
              have HF15 := Lib.hid (HF14.out.trans0 hf)
              clear hf HF14
              go_wp2_with fail
              go_roundw
              case rel => exact ⟨i + 1, by omega, by go_num, HF15.out⟩
              case measure => simp [intOf]; omega
            · have hi17 : ¬ (i : Int) < 17 := by omega
              clear hli hi
              have HFc := Lib.hid (HFb.out.trans0 HF.out)
              have HIc := Lib.hid (HIF.out.fr HF.out fun _ _ h => h)
              clear HFb HIF HF HCb
              have HB1 := Lib.hid (Bk.new wr 3 #[Value.int .i64 1])
              have HIc1 := Lib.hid (HIc.out.fr ((Fr.refl wr Nil).alloc (Obj.cells #[Value.int .i64 1] 3)) fun _ _ h => h)
              go_wp2_with (first
                | (at_builtin
                   refine wpList_app_full rfl _ _ rfl bF wr.heap.size 64 (List.replicate 64 1) 1 rfl (by decide) rfl rfl HIc1.out HB1.out fun c w30 hi30 hf30 => ?_
                   rw [World.size_alloc] at hi30
                   have HI30 : Hid (IntsAt w30 (.slice (some ⟨wr.heap.size + 1, 0, none⟩) 65 c) (List.replicate 64 1 ++ [1])) := hi30
                   have HF30 := Lib.hid (((Fr.refl wr Nil).alloc _).trans0 hf30)
                   clear hi30 hf30)
                | fail)
              refine (api_new _ (List.replicate 64 1 ++ [1]) _ HI30.out (by decide)).mono ?_
              rintro e w31 hr
              rcases hr with ⟨hok, _⟩ | ⟨_, rfl, hf⟩
              · exact absurd hok.1 (by decide)
              have HF31 := Lib.hid (HF30.out.trans0 hf)
              clear hf HF30 HI30
              go_wp2_with fail
              refine (api_new _ (List.replicate 64 1) _ (HIc.out.fr HF31.out fun _ _ h => h) (by decide)).mono ?_
              rintro e w32 hr
              rcases hr with ⟨_, r2, S2, rfl, _, _, hf⟩ | ⟨hno, _⟩
              rotate_left
              · exact absurd (⟨by decide, by decide⟩ : colsOk (List.replicate 64 1)) hno
              have HF32 := Lib.hid (HFc.out.trans0 (HF31.out.trans0 hf))
              clear hf HF31
              go_wp2_with fail
              refine (works_any _).mono ?_
              rintro e w33 ⟨rfl, hf⟩
              have HF33 := Lib.hid (HF32.out.trans0 hf)
              clear hf HF32
              go_wp2_with fail
              go_ret
              exact ⟨rfl, HF33.out⟩
end Go.Proofs.Ytljgifjokdppgaa
