/-
  Walk of waits.Ring.
  No condition but sizes.
-/
import Derived.Test.YtkeiphmhckkniaaWtFar
import Derived.Test.YtkeiphmhckkniaaWtReach
import Derived.Test.YtkeiphmhckkniaaWtRingP
import Derived.Test.YtkeiphmhckkniaaWtKit
namespace Go.Proofs.Ytkeiphmhckkniaa
open Go Go.RowKit Go.Shelf

attribute [local go_sem] Oper.semAt_some
def ringL (fb n fc fbx : Nat) (F : List Int) (ov : Value) (out : List Nat) : List Thing := [owT (.slice (some ⟨fb, 0, none⟩) n fc) F, bkT fbx 27 [.slice (some ⟨fb, 0, none⟩) n fc], owT ov (ints out)]
def Rng (G : List (List Int)) (s : Nat) (F : List Int) (ga : Option Addr) (gcap fb fc fbx : Nat) (w : World) (a : Act) (W : World) : Prop := ∃ (at' : Nat) (out : List Nat) (ov : Value) (ds : List Nat) (u : Nat → Value), a = { tmps := #[.slice ga G.length gcap, .int .i64 (s : Int), u 2, u 3, .slice none 0 0, .pointer (some ⟨fbx, 0, none⟩), ov, .int .i64 (at' : Int), u 8, u 9, u 10, u 11, u 12, u 13, u 14, u 15, u 16, u 17, u 18, u 19, u 20, u 21, u 22, u 23, u 24, u 25, u 26, u 27, u 28, u 29, u 30, u 31, u 32, u 33, u 34, u 35, u 36, u 37, u 38, u 39, u 40, u 41, u 42, u 43, u 44, u 45, u 46, u 47, u 48, u 49, u 50, u 51, u 52, u 53, u 54, u 55, u 56, u 57, u 58, u 59, u 60, u 61], defers := ds.map markD } ∧ RingAt G s F at' out ∧ ds.length + 1 = out.length ∧
      Lies w W (marksT ds :: ringL fb G.length fc fbx F ov out)
theorem Rng.mk {G : List (List Int)} {s : Nat} {F : List Int} {ga : Option Addr} {gcap fb fc fbx : Nat} {w : World} {a : Act} {W : World} (h : ∃ (at' : Nat) (out : List Nat) (ov : Value) (ds : List Nat) (u : Nat → Value), a = { tmps := #[.slice ga G.length gcap, .int .i64 (s : Int), u 2, u 3, .slice none 0 0, .pointer (some ⟨fbx, 0, none⟩), ov, .int .i64 (at' : Int), u 8, u 9, u 10, u 11, u 12, u 13, u 14, u 15, u 16, u 17, u 18, u 19, u 20, u 21, u 22, u 23, u 24, u 25, u 26, u 27, u 28, u 29, u 30, u 31, u 32, u 33, u 34, u 35, u 36, u 37, u 38, u 39, u 40, u 41, u 42, u 43, u 44, u 45, u 46, u 47, u 48, u 49, u 50, u 51, u 52, u 53, u 54, u 55, u 56, u 57, u 58, u 59, u 60, u 61], defers := ds.map markD } ∧ RingAt G s F at' out ∧ ds.length + 1 = out.length ∧
      Lies w W (marksT ds :: ringL fb G.length fc fbx F ov out)) : Rng G s F ga gcap fb fc fbx w a W := h
def InN (n : Nat) (e : Int) : Prop := e = -1 ∨ (0 ≤ e ∧ e < n)
def ringZ (G : List (List Int)) (i : Int) : List Int := if 0 ≤ i ∧ i < G.length then ints (ringP G i.toNat) else []
set_option maxRecDepth 100000 in
set_option maxHeartbeats 4000000 in
theorem ring_in (gv : Value) (G : List (List Int)) (s : Nat) (w : World) (h : GraphAt w gv G) (hs : s < G.length) (hl : G.length ≤ 1000) :
    Calls Try.prog 16 #[gv, .int .i64 (s : Int)] w (RowRet (ints (ringP G s)) w) := by
  obtain ⟨ga, gcap, rfl⟩ := h.shape
  have HG := Lib.hid h
  have hss : (s : Int) < (G.length : Int) := by omega
  have hm := Lies.begin w
  have HM := Lib.hid hm
  clear h hm
  refine (callsIn_wide (n := 8)).1 ?_
  refine callsIn_of_wp_marks Try.func16 rfl trivial ?_ rfl
  simp only [Try.ntmps16, List.size_toArray, List.length_cons, List.length_nil, Nat.reduceAdd, Nat.reduceSub, Array.replicate_succ, Array.replicate_zero, List.push_toArray, List.append_toArray, List.nil_append, List.cons_append]
  gi_wp2
  refine ⟨trivial, ?_⟩
  refine (callsIn_wide.2 (far_any _ G s _ HG.out hs hl)).mono ?_
  rintro e w1 ⟨F, fb, fc, hF, rfl, ho, hn, hf⟩
  have HF := Lib.hid hF
  have eF := hF.len
  rw [eF] at ho hn ⊢
  have HL0 := Lib.hid ((HM.out.addRow ho hn hf).newBk 27 #[.slice (some ⟨fb, 0, none⟩) G.length fc])
  have HL1 := Lib.hid (HL0.out.lit #[.int .i64 (s : Int)] 1 (ints [s]) rfl rfl (by decide))
  have FZ := Lib.hid HF.out.zero
  clear hF ho hn hf eF HL0
  gi_wp2
  simp only [World.size_alloc] at HL1
  generalize w1.heap.size = fbx at HL1 ⊢
  clear HM
  refine wpIn_loop (Rng G s F ga gcap fb fc fbx w) (fun a W => G.length + 1 - a.defers.length) ?start ?round
  case start => exact Rng.mk ⟨s, [s], _, [], useU rfl ⟨RingAt.start hs, rfl, HL1.out⟩⟩
  case round =>
    rintro a W ⟨at', out, ov, ds, u, rfl, hR, hds, hL⟩
    have HL := Lib.hid hL
    have HR := Lib.hid hR
    have hat := hR.lt
    have hatt : (at' : Int) < (G.length : Int) := by omega
    have hol := hR.len
    clear hL hR HL1
    have HLb := Lib.hid (HL.out.newBk 3 #[.int .i64 (-1)])
    gi_wp2
    refine ⟨trivial, ?_⟩
    refine (callsIn_wide.2 (of_any _ G at' _ (HG.out.fr0 HLb.out.fr) hat)).mono ?_
    rintro e W1 hr
    obtain ⟨Bs, av, ac, rfl, hL1⟩ := HLb.out.of hr
    have HL1 := Lib.hid hL1
    clear hr hL1
    generalize W.heap.size = bbx at HL1 HLb ⊢
    gi_wp2
    have hES := ofP_few G at'
    refine wpIn_range_of 9 (by decide) (Bs := Bs) (cap := ac) (av := av) (es := ofP G at') rfl (by omega)
      (E := Int) (fun e => ringL fb G.length fc fbx F ov out ++ [bkT bbx 3 [.int .i64 e]])
      (fun pre e => e = bestP F pre ∧ InN G.length e) ds ?cells ⟨-1, HL1.out, rfl, .inl rfl⟩ ?assign ?body ?done
    case cells =>
      intro e y hy
      simp only [ringL, List.mem_append, List.mem_cons, List.not_mem_nil, or_false] at hy
      rcases hy with (rfl | rfl | rfl) | rfl
      all_goals first | exact cells_bk _ _ _ | exact cells_ow _ _
    case assign =>
      intro l x W K hK
      gi_wp2
      exact hK
    case body =>
      rintro l pre x W2 e hx hlt2 hL2 ⟨he, hin⟩
      have HE := Lib.hid he
      obtain ⟨k, rfl, hk, hsee⟩ := ofP_nodes hx
      have hkk : (k : Int) < (G.length : Int) := by omega
      have eF := HF.out.len
      have HO2 := hL2.row 1 rfl
      have q1 := HO2.cell eF.symm k (by omega)
      have q5 := (hL2.bk 2 rfl).cell 0
      have q8 := (hL2.bk 4 rfl).cell 0
      have HK0 := Lib.hid (LK.start hL2 W1.heap.size)
      have f8 := (hL2.bk 4 rfl).free 0
      dsimp only [setX]
      try simp only [List.setIfInBounds_toArray, List.set_cons_zero, List.set_cons_succ]
      have HT : Hid (0 ≤ F.getD k 0 ∧ (e < 0 ∨ F.getD k 0 < F.getD e.toNat 0) → bestP F (pre ++ [(k : Int)]) = (k : Int)) := fun h => by
        rw [bestP_snoc, ← HE.out]
        unfold bestStep
        rw [Int.toNat_natCast, if_pos h]
      have HN : Hid (¬ (0 ≤ F.getD k 0 ∧ (e < 0 ∨ F.getD k 0 < F.getD e.toNat 0)) → bestP F (pre ++ [(k : Int)]) = e) := fun h => by
        rw [bestP_snoc, ← HE.out]
        unfold bestStep
        rw [Int.toNat_natCast, if_neg h]
      clear HE he
      generalize hfv : F.getD k 0 = fv at q1 HT HN
      clear hfv
      by_cases h0 : 0 ≤ fv
      · have d1 : decide (0 ≤ fv) = true := decide_eq_true h0
        by_cases hb : e < 0
        · have d2 : decide (e < 0) = true := decide_eq_true hb
          gi_wp2
          refine wpIn_region_sink 19 (fun w' : World => w'.cell? ⟨fbx, 0, none⟩ = some (.slice (some ⟨fb, 0, none⟩) G.length fc) ∧ w'.cell? ⟨fb, k, none⟩ = some (.int .i64 fv) ∧ w'.cell? ⟨bbx, 0, none⟩ = some (.int .i64 e)) (by kernel_rfl) (by kernel_rfl) ?_
          have hS : (fun w' : World => w'.cell? ⟨fbx, 0, none⟩ = some (.slice (some ⟨fb, 0, none⟩) G.length fc) ∧ w'.cell? ⟨fb, k, none⟩ = some (.int .i64 fv) ∧ w'.cell? ⟨bbx, 0, none⟩ = some (.int .i64 e)) W2.drew := ⟨q5, q1, q8⟩
          have HK1 := Lib.hid HK0.out.drew
          have f8 : W2.drew.frozen? ⟨bbx, 0, none⟩ = false := f8
          generalize W2.drew = W3 at *
          clear q1 q5 q8
          refine wpAnyS_take (i := 0) (v := ?_) rfl (by kernel_rfl) (fun _ _ _ h => h) (by rfl) hS ?_ ?_
          rotate_left
          · intro w' hS'
            (try dsimp only at hS')
            go_simp <;> with_reducible rfl
          try simp only [Act.put, List.setIfInBounds_toArray, List.set_cons_zero, List.set_cons_succ]
          refine wpAnyS_take (i := 1) (v := ?_) rfl (by kernel_rfl) (fun _ _ _ h => h) (by rfl) hS ?_ ?_
          rotate_left
          · intro w' hS'
            (try dsimp only at hS')
            go_simp <;> with_reducible rfl
          try simp only [Act.put, List.setIfInBounds_toArray, List.set_cons_zero, List.set_cons_succ]
          refine wpAnyS_take (i := 2) (v := ?_) rfl (by kernel_rfl) (fun _ _ _ h => h) (by rfl) hS ?_ ?_
          rotate_left
          · intro w' hS'
            (try dsimp only at hS')
            go_simp <;> with_reducible rfl
          try simp only [Act.put, List.setIfInBounds_toArray, List.set_cons_zero, List.set_cons_succ]
          refine wpAnyS_take (i := 3) (v := ?_) rfl (by kernel_rfl) (fun _ _ _ h => h) (by rfl) hS ?_ ?_
          rotate_left
          · intro w' hS'
            (try dsimp only at hS')
            go_simp <;> with_reducible rfl
          try simp only [Act.put, List.setIfInBounds_toArray, List.set_cons_zero, List.set_cons_succ]
          refine wpAnyS_take (i := 4) (v := ?_) rfl (by kernel_rfl) (fun _ _ _ h => h) (by rfl) hS ?_ ?_
          rotate_left
          · intro w' hS'
            (try dsimp only at hS')
            go_simp <;> with_reducible rfl
          try simp only [Act.put, List.setIfInBounds_toArray, List.set_cons_zero, List.set_cons_succ]
          refine wpAnyS_take (i := 5) (v := ?_) rfl (by kernel_rfl) (fun _ _ _ h => h) (by rfl) hS ?_ ?_
          rotate_left
          · intro w' hS'
            (try dsimp only at hS')
            go_simp <;> with_reducible rfl
          try simp only [Act.put, List.setIfInBounds_toArray, List.set_cons_zero, List.set_cons_succ]
          refine wpAnyS_take (i := 6) (v := ?_) rfl (by kernel_rfl) (fun _ _ _ h => h) (by rfl) hS ?_ ?_
          rotate_left
          · intro w' hS'
            (try dsimp only at hS')
            go_simp <;> with_reducible rfl
          try simp only [Act.put, List.setIfInBounds_toArray, List.set_cons_zero, List.set_cons_succ]
          refine wpAnyS_take (i := 7) (v := ?_) rfl (by kernel_rfl) (fun _ _ _ h => h) (by rfl) hS ?_ ?_
          rotate_left
          · intro w' hS'
            (try dsimp only at hS')
            go_simp <;> with_reducible rfl
          try simp only [Act.put, List.setIfInBounds_toArray, List.set_cons_zero, List.set_cons_succ]
          refine wpAnyS_take (i := 8) (v := ?_) rfl (by kernel_rfl) (fun _ _ _ h => h) (by rfl) hS ?_ ?_
          rotate_left
          · intro w' hS'
            (try dsimp only at hS')
            go_simp <;> with_reducible rfl
          try simp only [Act.put, List.setIfInBounds_toArray, List.set_cons_zero, List.set_cons_succ]
          refine wpAnyS_skip (i := 9) rfl (by kernel_rfl) (fun _ _ _ h => h) (by rfl) hS ?_
          try simp only [Act.put, List.setIfInBounds_toArray, List.set_cons_zero, List.set_cons_succ]
          refine wpAnyS_skip (i := 10) rfl (by kernel_rfl) (fun _ _ _ h => h) (by rfl) hS ?_
          try simp only [Act.put, List.setIfInBounds_toArray, List.set_cons_zero, List.set_cons_succ]
          refine wpAnyS_skip (i := 11) rfl (by kernel_rfl) (fun _ _ _ h => h) (by rfl) hS ?_
          try simp only [Act.put, List.setIfInBounds_toArray, List.set_cons_zero, List.set_cons_succ]
          refine wpAnyS_skip (i := 12) rfl (by kernel_rfl) (fun _ _ _ h => h) (by rfl) hS ?_
          try simp only [Act.put, List.setIfInBounds_toArray, List.set_cons_zero, List.set_cons_succ]
          refine wpAnyS_skip (i := 13) rfl (by kernel_rfl) (fun _ _ _ h => h) (by rfl) hS ?_
          try simp only [Act.put, List.setIfInBounds_toArray, List.set_cons_zero, List.set_cons_succ]
          refine wpAnyS_skip (i := 14) rfl (by kernel_rfl) (fun _ _ _ h => h) (by rfl) hS ?_
          try simp only [Act.put, List.setIfInBounds_toArray, List.set_cons_zero, List.set_cons_succ]
          refine wpAnyS_skip (i := 15) rfl (by kernel_rfl) (fun _ _ _ h => h) (by rfl) hS ?_
          try simp only [Act.put, List.setIfInBounds_toArray, List.set_cons_zero, List.set_cons_succ]
          refine wpAnyS_skip (i := 16) rfl (by kernel_rfl) (fun _ _ _ h => h) (by rfl) hS ?_
          try simp only [Act.put, List.setIfInBounds_toArray, List.set_cons_zero, List.set_cons_succ]
          refine wpAnyS_skip (i := 17) rfl (by kernel_rfl) (fun _ _ _ h => h) (by rfl) hS ?_
          try simp only [Act.put, List.setIfInBounds_toArray, List.set_cons_zero, List.set_cons_succ]
          refine wpAnyS_take (i := 18) (v := ?_) rfl (by kernel_rfl) (fun _ _ _ h => h) (by rfl) hS ?_ ?_
          rotate_left
          · intro w' hS'
            (try dsimp only at hS')
            go_simp <;> with_reducible rfl
          try simp only [Act.put, List.setIfInBounds_toArray, List.set_cons_zero, List.set_cons_succ]
          refine wpAnyS_last (i := 19) rfl (by kernel_rfl) (by decide) (by kernel_rfl) (by rfl) fun K hK => ?_
          go_simp
          refine hK.out _ _ ?_
          have q8 := hS.2.2
          clear hK K hS
          dsimp only [OnlyEnd]
          gi_wp2
          exact ⟨(k : Int), HK1.out.stored 4 rfl 0 (.int .i64 (k : Int)), (HT.out ⟨h0, .inl hb⟩).symm, .inr ⟨by omega, by omega⟩⟩
        · obtain ⟨m, rfl⟩ : ∃ m : Nat, e = (m : Int) := ⟨e.toNat, by omega⟩
          have hm : m < G.length := by rcases hin with h | h <;> omega
          have hmm : (m : Int) < (G.length : Int) := by omega
          have d2 : decide ((m : Int) < 0) = false := decide_eq_false hb
          have q9 := HO2.cell eF.symm m (by omega)
          simp only [Int.toNat_natCast] at HT HN
          generalize F.getD m 0 = fm at q9 HT HN
          by_cases hc : fv < fm
          · have d3 : decide (fv < fm) = true := decide_eq_true hc
            gi_wp2
            refine wpIn_region_sink 19 (fun w' : World => w'.cell? ⟨fbx, 0, none⟩ = some (.slice (some ⟨fb, 0, none⟩) G.length fc) ∧ w'.cell? ⟨fb, k, none⟩ = some (.int .i64 fv) ∧ w'.cell? ⟨bbx, 0, none⟩ = some (.int .i64 (m : Int)) ∧ w'.cell? ⟨fb, m, none⟩ = some (.int .i64 fm)) (by kernel_rfl) (by kernel_rfl) ?_
            have hS : (fun w' : World => w'.cell? ⟨fbx, 0, none⟩ = some (.slice (some ⟨fb, 0, none⟩) G.length fc) ∧ w'.cell? ⟨fb, k, none⟩ = some (.int .i64 fv) ∧ w'.cell? ⟨bbx, 0, none⟩ = some (.int .i64 (m : Int)) ∧ w'.cell? ⟨fb, m, none⟩ = some (.int .i64 fm)) W2.drew := ⟨q5, q1, q8, q9⟩
            have HK1 := Lib.hid HK0.out.drew
            have f8 : W2.drew.frozen? ⟨bbx, 0, none⟩ = false := f8
            generalize W2.drew = W3 at *
            clear q1 q5 q8 q9
            refine wpAnyS_take (i := 0) (v := ?_) rfl (by kernel_rfl) (fun _ _ _ h => h) (by rfl) hS ?_ ?_
            rotate_left
            · intro w' hS'
              (try dsimp only at hS')
              go_simp <;> with_reducible rfl
            try simp only [Act.put, List.setIfInBounds_toArray, List.set_cons_zero, List.set_cons_succ]
            refine wpAnyS_take (i := 1) (v := ?_) rfl (by kernel_rfl) (fun _ _ _ h => h) (by rfl) hS ?_ ?_
            rotate_left
            · intro w' hS'
              (try dsimp only at hS')
              go_simp <;> with_reducible rfl
            try simp only [Act.put, List.setIfInBounds_toArray, List.set_cons_zero, List.set_cons_succ]
            refine wpAnyS_take (i := 2) (v := ?_) rfl (by kernel_rfl) (fun _ _ _ h => h) (by rfl) hS ?_ ?_
            rotate_left
            · intro w' hS'
              (try dsimp only at hS')
              go_simp <;> with_reducible rfl
            try simp only [Act.put, List.setIfInBounds_toArray, List.set_cons_zero, List.set_cons_succ]
            refine wpAnyS_take (i := 3) (v := ?_) rfl (by kernel_rfl) (fun _ _ _ h => h) (by rfl) hS ?_ ?_
            rotate_left
            · intro w' hS'
              (try dsimp only at hS')
              go_simp <;> with_reducible rfl
            try simp only [Act.put, List.setIfInBounds_toArray, List.set_cons_zero, List.set_cons_succ]
            refine wpAnyS_take (i := 4) (v := ?_) rfl (by kernel_rfl) (fun _ _ _ h => h) (by rfl) hS ?_ ?_
            rotate_left
            · intro w' hS'
              (try dsimp only at hS')
              go_simp <;> with_reducible rfl
            try simp only [Act.put, List.setIfInBounds_toArray, List.set_cons_zero, List.set_cons_succ]
            refine wpAnyS_take (i := 5) (v := ?_) rfl (by kernel_rfl) (fun _ _ _ h => h) (by rfl) hS ?_ ?_
            rotate_left
            · intro w' hS'
              (try dsimp only at hS')
              go_simp <;> with_reducible rfl
            try simp only [Act.put, List.setIfInBounds_toArray, List.set_cons_zero, List.set_cons_succ]
            refine wpAnyS_take (i := 6) (v := ?_) rfl (by kernel_rfl) (fun _ _ _ h => h) (by rfl) hS ?_ ?_
            rotate_left
            · intro w' hS'
              (try dsimp only at hS')
              go_simp <;> with_reducible rfl
            try simp only [Act.put, List.setIfInBounds_toArray, List.set_cons_zero, List.set_cons_succ]
            refine wpAnyS_take (i := 7) (v := ?_) rfl (by kernel_rfl) (fun _ _ _ h => h) (by rfl) hS ?_ ?_
            rotate_left
            · intro w' hS'
              (try dsimp only at hS')
              go_simp <;> with_reducible rfl
            try simp only [Act.put, List.setIfInBounds_toArray, List.set_cons_zero, List.set_cons_succ]
            refine wpAnyS_take (i := 8) (v := ?_) rfl (by kernel_rfl) (fun _ _ _ h => h) (by rfl) hS ?_ ?_
            rotate_left
            · intro w' hS'
              (try dsimp only at hS')
              go_simp <;> with_reducible rfl
            try simp only [Act.put, List.setIfInBounds_toArray, List.set_cons_zero, List.set_cons_succ]
            refine wpAnyS_take (i := 9) (v := ?_) rfl (by kernel_rfl) (fun _ _ _ h => h) (by rfl) hS ?_ ?_
            rotate_left
            · intro w' hS'
              (try dsimp only at hS')
              go_simp <;> with_reducible rfl
            try simp only [Act.put, List.setIfInBounds_toArray, List.set_cons_zero, List.set_cons_succ]
            refine wpAnyS_take (i := 10) (v := ?_) rfl (by kernel_rfl) (fun _ _ _ h => h) (by rfl) hS ?_ ?_
            rotate_left
            · intro w' hS'
              (try dsimp only at hS')
              go_simp <;> with_reducible rfl
            try simp only [Act.put, List.setIfInBounds_toArray, List.set_cons_zero, List.set_cons_succ]
            refine wpAnyS_take (i := 11) (v := ?_) rfl (by kernel_rfl) (fun _ _ _ h => h) (by rfl) hS ?_ ?_
            rotate_left
            · intro w' hS'
              (try dsimp only at hS')
              go_simp <;> with_reducible rfl
            try simp only [Act.put, List.setIfInBounds_toArray, List.set_cons_zero, List.set_cons_succ]
            refine wpAnyS_take (i := 12) (v := ?_) rfl (by kernel_rfl) (fun _ _ _ h => h) (by rfl) hS ?_ ?_
            rotate_left
            · intro w' hS'
              (try dsimp only at hS')
              go_simp <;> with_reducible rfl
            try simp only [Act.put, List.setIfInBounds_toArray, List.set_cons_zero, List.set_cons_succ]
            refine wpAnyS_take (i := 13) (v := ?_) rfl (by kernel_rfl) (fun _ _ _ h => h) (by rfl) hS ?_ ?_
            rotate_left
            · intro w' hS'
              (try dsimp only at hS')
              go_simp <;> with_reducible rfl
            try simp only [Act.put, List.setIfInBounds_toArray, List.set_cons_zero, List.set_cons_succ]
            refine wpAnyS_take (i := 14) (v := ?_) rfl (by kernel_rfl) (fun _ _ _ h => h) (by rfl) hS ?_ ?_
            rotate_left
            · intro w' hS'
              (try dsimp only at hS')
              go_simp <;> with_reducible rfl
            try simp only [Act.put, List.setIfInBounds_toArray, List.set_cons_zero, List.set_cons_succ]
            refine wpAnyS_take (i := 15) (v := ?_) rfl (by kernel_rfl) (fun _ _ _ h => h) (by rfl) hS ?_ ?_
            rotate_left
            · intro w' hS'
              (try dsimp only at hS')
              go_simp <;> with_reducible rfl
            try simp only [Act.put, List.setIfInBounds_toArray, List.set_cons_zero, List.set_cons_succ]
            refine wpAnyS_take (i := 16) (v := ?_) rfl (by kernel_rfl) (fun _ _ _ h => h) (by rfl) hS ?_ ?_
            rotate_left
            · intro w' hS'
              (try dsimp only at hS')
              go_simp <;> with_reducible rfl
            try simp only [Act.put, List.setIfInBounds_toArray, List.set_cons_zero, List.set_cons_succ]
            refine wpAnyS_take (i := 17) (v := ?_) rfl (by kernel_rfl) (fun _ _ _ h => h) (by rfl) hS ?_ ?_
            rotate_left
            · intro w' hS'
              (try dsimp only at hS')
              go_simp <;> with_reducible rfl
            try simp only [Act.put, List.setIfInBounds_toArray, List.set_cons_zero, List.set_cons_succ]
            refine wpAnyS_take (i := 18) (v := ?_) rfl (by kernel_rfl) (fun _ _ _ h => h) (by rfl) hS ?_ ?_
            rotate_left
            · intro w' hS'
              (try dsimp only at hS')
              go_simp <;> with_reducible rfl
            try simp only [Act.put, List.setIfInBounds_toArray, List.set_cons_zero, List.set_cons_succ]
            refine wpAnyS_last (i := 19) rfl (by kernel_rfl) (by decide) (by kernel_rfl) (by rfl) fun K hK => ?_
            go_simp
            refine hK.out _ _ ?_
            have q8 := hS.2.2.1
            clear hK K hS
            dsimp only [OnlyEnd]
            gi_wp2
            exact ⟨(k : Int), HK1.out.stored 4 rfl 0 (.int .i64 (k : Int)), (HT.out ⟨h0, .inr hc⟩).symm, .inr ⟨by omega, by omega⟩⟩
          · have d3 : decide (fv < fm) = false := decide_eq_false hc
            gi_wp2
            refine wpIn_region_sink 19 (fun w' : World => w'.cell? ⟨fbx, 0, none⟩ = some (.slice (some ⟨fb, 0, none⟩) G.length fc) ∧ w'.cell? ⟨fb, k, none⟩ = some (.int .i64 fv) ∧ w'.cell? ⟨bbx, 0, none⟩ = some (.int .i64 (m : Int)) ∧ w'.cell? ⟨fb, m, none⟩ = some (.int .i64 fm)) (by kernel_rfl) (by kernel_rfl) ?_
            have hS : (fun w' : World => w'.cell? ⟨fbx, 0, none⟩ = some (.slice (some ⟨fb, 0, none⟩) G.length fc) ∧ w'.cell? ⟨fb, k, none⟩ = some (.int .i64 fv) ∧ w'.cell? ⟨bbx, 0, none⟩ = some (.int .i64 (m : Int)) ∧ w'.cell? ⟨fb, m, none⟩ = some (.int .i64 fm)) W2.drew := ⟨q5, q1, q8, q9⟩
            have HK1 := Lib.hid HK0.out.drew
            have f8 : W2.drew.frozen? ⟨bbx, 0, none⟩ = false := f8
            generalize W2.drew = W3 at *
            clear q1 q5 q8 q9
            refine wpAnyS_take (i := 0) (v := ?_) rfl (by kernel_rfl) (fun _ _ _ h => h) (by rfl) hS ?_ ?_
            rotate_left
            · intro w' hS'
              (try dsimp only at hS')
              go_simp <;> with_reducible rfl
            try simp only [Act.put, List.setIfInBounds_toArray, List.set_cons_zero, List.set_cons_succ]
            refine wpAnyS_take (i := 1) (v := ?_) rfl (by kernel_rfl) (fun _ _ _ h => h) (by rfl) hS ?_ ?_
            rotate_left
            · intro w' hS'
              (try dsimp only at hS')
              go_simp <;> with_reducible rfl
            try simp only [Act.put, List.setIfInBounds_toArray, List.set_cons_zero, List.set_cons_succ]
            refine wpAnyS_take (i := 2) (v := ?_) rfl (by kernel_rfl) (fun _ _ _ h => h) (by rfl) hS ?_ ?_
            rotate_left
            · intro w' hS'
              (try dsimp only at hS')
              go_simp <;> with_reducible rfl
            try simp only [Act.put, List.setIfInBounds_toArray, List.set_cons_zero, List.set_cons_succ]
            refine wpAnyS_take (i := 3) (v := ?_) rfl (by kernel_rfl) (fun _ _ _ h => h) (by rfl) hS ?_ ?_
            rotate_left
            · intro w' hS'
              (try dsimp only at hS')
              go_simp <;> with_reducible rfl
            try simp only [Act.put, List.setIfInBounds_toArray, List.set_cons_zero, List.set_cons_succ]
            refine wpAnyS_take (i := 4) (v := ?_) rfl (by kernel_rfl) (fun _ _ _ h => h) (by rfl) hS ?_ ?_
            rotate_left
            · intro w' hS'
              (try dsimp only at hS')
              go_simp <;> with_reducible rfl
            try simp only [Act.put, List.setIfInBounds_toArray, List.set_cons_zero, List.set_cons_succ]
            refine wpAnyS_take (i := 5) (v := ?_) rfl (by kernel_rfl) (fun _ _ _ h => h) (by rfl) hS ?_ ?_
            rotate_left
            · intro w' hS'
              (try dsimp only at hS')
              go_simp <;> with_reducible rfl
            try simp only [Act.put, List.setIfInBounds_toArray, List.set_cons_zero, List.set_cons_succ]
            refine wpAnyS_take (i := 6) (v := ?_) rfl (by kernel_rfl) (fun _ _ _ h => h) (by rfl) hS ?_ ?_
            rotate_left
            · intro w' hS'
              (try dsimp only at hS')
              go_simp <;> with_reducible rfl
            try simp only [Act.put, List.setIfInBounds_toArray, List.set_cons_zero, List.set_cons_succ]
            refine wpAnyS_take (i := 7) (v := ?_) rfl (by kernel_rfl) (fun _ _ _ h => h) (by rfl) hS ?_ ?_
            rotate_left
            · intro w' hS'
              (try dsimp only at hS')
              go_simp <;> with_reducible rfl
            try simp only [Act.put, List.setIfInBounds_toArray, List.set_cons_zero, List.set_cons_succ]
            refine wpAnyS_take (i := 8) (v := ?_) rfl (by kernel_rfl) (fun _ _ _ h => h) (by rfl) hS ?_ ?_
            rotate_left
            · intro w' hS'
              (try dsimp only at hS')
              go_simp <;> with_reducible rfl
            try simp only [Act.put, List.setIfInBounds_toArray, List.set_cons_zero, List.set_cons_succ]
            refine wpAnyS_take (i := 9) (v := ?_) rfl (by kernel_rfl) (fun _ _ _ h => h) (by rfl) hS ?_ ?_
            rotate_left
            · intro w' hS'
              (try dsimp only at hS')
              go_simp <;> with_reducible rfl
            try simp only [Act.put, List.setIfInBounds_toArray, List.set_cons_zero, List.set_cons_succ]
            refine wpAnyS_take (i := 10) (v := ?_) rfl (by kernel_rfl) (fun _ _ _ h => h) (by rfl) hS ?_ ?_
            rotate_left
            · intro w' hS'
              (try dsimp only at hS')
              go_simp <;> with_reducible rfl
            try simp only [Act.put, List.setIfInBounds_toArray, List.set_cons_zero, List.set_cons_succ]
            refine wpAnyS_take (i := 11) (v := ?_) rfl (by kernel_rfl) (fun _ _ _ h => h) (by rfl) hS ?_ ?_
            rotate_left
            · intro w' hS'
              (try dsimp only at hS')
              go_simp <;> with_reducible rfl
            try simp only [Act.put, List.setIfInBounds_toArray, List.set_cons_zero, List.set_cons_succ]
            refine wpAnyS_take (i := 12) (v := ?_) rfl (by kernel_rfl) (fun _ _ _ h => h) (by rfl) hS ?_ ?_
            rotate_left
            · intro w' hS'
              (try dsimp only at hS')
              go_simp <;> with_reducible rfl
            try simp only [Act.put, List.setIfInBounds_toArray, List.set_cons_zero, List.set_cons_succ]
            refine wpAnyS_take (i := 13) (v := ?_) rfl (by kernel_rfl) (fun _ _ _ h => h) (by rfl) hS ?_ ?_
            rotate_left
            · intro w' hS'
              (try dsimp only at hS')
              go_simp <;> with_reducible rfl
            try simp only [Act.put, List.setIfInBounds_toArray, List.set_cons_zero, List.set_cons_succ]
            refine wpAnyS_take (i := 14) (v := ?_) rfl (by kernel_rfl) (fun _ _ _ h => h) (by rfl) hS ?_ ?_
            rotate_left
            · intro w' hS'
              (try dsimp only at hS')
              go_simp <;> with_reducible rfl
            try simp only [Act.put, List.setIfInBounds_toArray, List.set_cons_zero, List.set_cons_succ]
            refine wpAnyS_take (i := 15) (v := ?_) rfl (by kernel_rfl) (fun _ _ _ h => h) (by rfl) hS ?_ ?_
            rotate_left
            · intro w' hS'
              (try dsimp only at hS')
              go_simp <;> with_reducible rfl
            try simp only [Act.put, List.setIfInBounds_toArray, List.set_cons_zero, List.set_cons_succ]
            refine wpAnyS_take (i := 16) (v := ?_) rfl (by kernel_rfl) (fun _ _ _ h => h) (by rfl) hS ?_ ?_
            rotate_left
            · intro w' hS'
              (try dsimp only at hS')
              go_simp <;> with_reducible rfl
            try simp only [Act.put, List.setIfInBounds_toArray, List.set_cons_zero, List.set_cons_succ]
            refine wpAnyS_take (i := 17) (v := ?_) rfl (by kernel_rfl) (fun _ _ _ h => h) (by rfl) hS ?_ ?_
            rotate_left
            · intro w' hS'
              (try dsimp only at hS')
              go_simp <;> with_reducible rfl
            try simp only [Act.put, List.setIfInBounds_toArray, List.set_cons_zero, List.set_cons_succ]
            refine wpAnyS_take (i := 18) (v := ?_) rfl (by kernel_rfl) (fun _ _ _ h => h) (by rfl) hS ?_ ?_
            rotate_left
            · intro w' hS'
              (try dsimp only at hS')
              go_simp <;> with_reducible rfl
            try simp only [Act.put, List.setIfInBounds_toArray, List.set_cons_zero, List.set_cons_succ]
            refine wpAnyS_last (i := 19) rfl (by kernel_rfl) (by decide) (by kernel_rfl) (by rfl) fun K hK => ?_
            go_simp
            refine hK.out _ _ ?_
            have q8 := hS.2.2.1
            clear hK K hS
            dsimp only [OnlyEnd]
            gi_wp2
            exact ⟨(m : Int), HK1.out, (HN.out (fun h => by omega)).symm, hin⟩
      · have d1 : decide (0 ≤ fv) = false := decide_eq_false h0
        gi_wp2
        refine wpIn_region_sink 19 (fun w' : World => w'.cell? ⟨fbx, 0, none⟩ = some (.slice (some ⟨fb, 0, none⟩) G.length fc) ∧ w'.cell? ⟨fb, k, none⟩ = some (.int .i64 fv) ∧ w'.cell? ⟨bbx, 0, none⟩ = some (.int .i64 e)) (by kernel_rfl) (by kernel_rfl) ?_
        have hS : (fun w' : World => w'.cell? ⟨fbx, 0, none⟩ = some (.slice (some ⟨fb, 0, none⟩) G.length fc) ∧ w'.cell? ⟨fb, k, none⟩ = some (.int .i64 fv) ∧ w'.cell? ⟨bbx, 0, none⟩ = some (.int .i64 e)) W2.drew := ⟨q5, q1, q8⟩
        have HK1 := Lib.hid HK0.out.drew
        have f8 : W2.drew.frozen? ⟨bbx, 0, none⟩ = false := f8
        generalize W2.drew = W3 at *
        clear q1 q5 q8
        refine wpAnyS_take (i := 0) (v := ?_) rfl (by kernel_rfl) (fun _ _ _ h => h) (by rfl) hS ?_ ?_
        rotate_left
        · intro w' hS'
          (try dsimp only at hS')
          go_simp <;> with_reducible rfl
        try simp only [Act.put, List.setIfInBounds_toArray, List.set_cons_zero, List.set_cons_succ]
        refine wpAnyS_take (i := 1) (v := ?_) rfl (by kernel_rfl) (fun _ _ _ h => h) (by rfl) hS ?_ ?_
        rotate_left
        · intro w' hS'
          (try dsimp only at hS')
          go_simp <;> with_reducible rfl
        try simp only [Act.put, List.setIfInBounds_toArray, List.set_cons_zero, List.set_cons_succ]
        refine wpAnyS_take (i := 2) (v := ?_) rfl (by kernel_rfl) (fun _ _ _ h => h) (by rfl) hS ?_ ?_
        rotate_left
        · intro w' hS'
          (try dsimp only at hS')
          go_simp <;> with_reducible rfl
        try simp only [Act.put, List.setIfInBounds_toArray, List.set_cons_zero, List.set_cons_succ]
        refine wpAnyS_take (i := 3) (v := ?_) rfl (by kernel_rfl) (fun _ _ _ h => h) (by rfl) hS ?_ ?_
        rotate_left
        · intro w' hS'
          (try dsimp only at hS')
          go_simp <;> with_reducible rfl
        try simp only [Act.put, List.setIfInBounds_toArray, List.set_cons_zero, List.set_cons_succ]
        refine wpAnyS_take (i := 4) (v := ?_) rfl (by kernel_rfl) (fun _ _ _ h => h) (by rfl) hS ?_ ?_
        rotate_left
        · intro w' hS'
          (try dsimp only at hS')
          go_simp <;> with_reducible rfl
        try simp only [Act.put, List.setIfInBounds_toArray, List.set_cons_zero, List.set_cons_succ]
        refine wpAnyS_take (i := 5) (v := ?_) rfl (by kernel_rfl) (fun _ _ _ h => h) (by rfl) hS ?_ ?_
        rotate_left
        · intro w' hS'
          (try dsimp only at hS')
          go_simp <;> with_reducible rfl
        try simp only [Act.put, List.setIfInBounds_toArray, List.set_cons_zero, List.set_cons_succ]
        refine wpAnyS_skip (i := 6) rfl (by kernel_rfl) (fun _ _ _ h => h) (by rfl) hS ?_
        try simp only [Act.put, List.setIfInBounds_toArray, List.set_cons_zero, List.set_cons_succ]
        refine wpAnyS_skip (i := 7) rfl (by kernel_rfl) (fun _ _ _ h => h) (by rfl) hS ?_
        try simp only [Act.put, List.setIfInBounds_toArray, List.set_cons_zero, List.set_cons_succ]
        refine wpAnyS_skip (i := 8) rfl (by kernel_rfl) (fun _ _ _ h => h) (by rfl) hS ?_
        try simp only [Act.put, List.setIfInBounds_toArray, List.set_cons_zero, List.set_cons_succ]
        refine wpAnyS_skip (i := 9) rfl (by kernel_rfl) (fun _ _ _ h => h) (by rfl) hS ?_
        try simp only [Act.put, List.setIfInBounds_toArray, List.set_cons_zero, List.set_cons_succ]
        refine wpAnyS_skip (i := 10) rfl (by kernel_rfl) (fun _ _ _ h => h) (by rfl) hS ?_
        try simp only [Act.put, List.setIfInBounds_toArray, List.set_cons_zero, List.set_cons_succ]
        refine wpAnyS_skip (i := 11) rfl (by kernel_rfl) (fun _ _ _ h => h) (by rfl) hS ?_
        try simp only [Act.put, List.setIfInBounds_toArray, List.set_cons_zero, List.set_cons_succ]
        refine wpAnyS_skip (i := 12) rfl (by kernel_rfl) (fun _ _ _ h => h) (by rfl) hS ?_
        try simp only [Act.put, List.setIfInBounds_toArray, List.set_cons_zero, List.set_cons_succ]
        refine wpAnyS_skip (i := 13) rfl (by kernel_rfl) (fun _ _ _ h => h) (by rfl) hS ?_
        try simp only [Act.put, List.setIfInBounds_toArray, List.set_cons_zero, List.set_cons_succ]
        refine wpAnyS_skip (i := 14) rfl (by kernel_rfl) (fun _ _ _ h => h) (by rfl) hS ?_
        try simp only [Act.put, List.setIfInBounds_toArray, List.set_cons_zero, List.set_cons_succ]
        refine wpAnyS_skip (i := 15) rfl (by kernel_rfl) (fun _ _ _ h => h) (by rfl) hS ?_
        try simp only [Act.put, List.setIfInBounds_toArray, List.set_cons_zero, List.set_cons_succ]
        refine wpAnyS_skip (i := 16) rfl (by kernel_rfl) (fun _ _ _ h => h) (by rfl) hS ?_
        try simp only [Act.put, List.setIfInBounds_toArray, List.set_cons_zero, List.set_cons_succ]
        refine wpAnyS_skip (i := 17) rfl (by kernel_rfl) (fun _ _ _ h => h) (by rfl) hS ?_
        try simp only [Act.put, List.setIfInBounds_toArray, List.set_cons_zero, List.set_cons_succ]
        refine wpAnyS_skip (i := 18) rfl (by kernel_rfl) (fun _ _ _ h => h) (by rfl) hS ?_
        try simp only [Act.put, List.setIfInBounds_toArray, List.set_cons_zero, List.set_cons_succ]
        refine wpAnyS_last (i := 19) rfl (by kernel_rfl) (by decide) (by kernel_rfl) (by rfl) fun K hK => ?_
        go_simp
        refine hK.out _ _ ?_
        have q8 := hS.2.2
        clear hK K hS
        dsimp only [OnlyEnd]
        gi_wp2
        exact ⟨e, HK1.out, (HN.out (fun h => by omega)).symm, hin⟩
    case done =>
      rintro D W2 e hL2 ⟨he, hin⟩
      have q8 := (hL2.bk 4 rfl).cell 0
      have HL2 := Lib.hid hL2
      have HE := Lib.hid he
      have HNX := Lib.hid (HR.out.next HF.out hs)
      clear hL2 he
      by_cases hb : e < 0
      · have HZ : Hid (ringP G s = []) := by
          rcases HNX.out with ⟨h1, h2⟩ | ⟨h1, _⟩ | ⟨b, h1, _⟩
          · exact Lib.hid h2
          · have := HE.out; omega
          · have := HE.out; omega
        gi_wp2
        have hm := HL2.out.marks 0 rfl
        refine leaves_marks (D :: ds) W2 hm.1 hm.2.1 fun W' hf => ?_
        have h3 := HL2.out.leave hf
        rw [HZ.out]
        exact ⟨_, results_tmp rfl _ _ _, none, 0, rfl, World.ownsRow_nil _ _ _ _, (fun _ h => by cases h), h3.fr⟩
      · obtain ⟨m, rfl⟩ : ∃ m : Nat, e = (m : Int) := ⟨e.toNat, by omega⟩
        by_cases hms : m = s
        · subst hms
          have HZ : Hid (ringP G m = out) := by
            rcases HNX.out with ⟨h1, _⟩ | ⟨_, h2⟩ | ⟨b, h1, h2, _⟩
            · have := HE.out; omega
            · exact Lib.hid h2
            · have := HE.out; omega
          gi_wp2
          have hm := HL2.out.marks 0 rfl
          refine leaves_marks (D :: ds) W2 hm.1 hm.2.1 fun W' hf => ?_
          have h3 := HL2.out.leave hf
          have h4 := h3.row 2 rfl
          have h5 := h3.newFrom 2 rfl
          obtain ⟨oa, oc, rfl⟩ := h4.shape
          rw [HZ.out]
          exact ⟨_, results_tmp rfl _ _ _, oa, oc, rfl, h4, h5, h3.fr⟩
        · have HZ : Hid (RingAt G s F m (out ++ [m]) ∧ out.length + 1 ≤ G.length) := by
            rcases HNX.out with ⟨h1, _⟩ | ⟨h1, _⟩ | ⟨b, h1, _, h2, h3⟩
            · have := HE.out; omega
            · have := HE.out; omega
            · obtain rfl : b = m := by have := HE.out; omega
              exact Lib.hid ⟨h2, h3⟩
          have hmz : ¬ ((m : Int) = (s : Int)) := by omega
          have HK0 := Lib.hid ((LK.start HL2.out 0).newBk 3 #[.int .i64 (m : Int)])
          clear HNX HE
          gi_wp2_with (gi_at_builtin; refine wpListIn_operW rfl (by intro c h; cases h) fun K hK => ?_; refine wp_oapp _ _ rfl HK0.out rfl rfl 3 rfl 6 rfl (by rw [ints_len]; omega) ?_; intro a5 c5 W3 hk5; have HK5 := Lib.hid hk5; refine hK.out _ _ ?_; clear hK hk5)
          have h5 := HK5.out.1.take 4
          have e5 : ints out ++ [(m : Int)] = ints (out ++ [m]) := by simp [ints]
          rw [e5] at h5
          exact ⟨Rng.mk ⟨m, out ++ [m], _, D :: ds, useU rfl ⟨HZ.out.1, by simp; omega, h5⟩⟩, by have := HZ.out.2; simp; omega⟩
theorem ring_any (gv : Value) (G : List (List Int)) (i : Int) (w : World) (h : GraphAt w gv G) (hl : G.length ≤ 1000) :
    Calls Try.prog 16 #[gv, .int .i64 i] w (RowRet (ringZ G i) w) := by
  by_cases hi : 0 ≤ i ∧ i < G.length
  · obtain ⟨s, rfl⟩ : ∃ s : Nat, i = (s : Int) := ⟨i.toNat, by omega⟩
    unfold ringZ
    rw [if_pos hi, Int.toNat_natCast]
    exact ring_in gv G s w h (by omega) hl
  · unfold ringZ
    rw [if_neg hi]
    obtain ⟨ga, gcap, rfl⟩ := h.shape
    clear h
    go_enter Try.func16, Try.ntmps16
    by_cases h0 : i < 0
    · go_wp2_with fail
      go_ret
      exact RowRet.nil w
    · have h1 : (G.length : Int) ≤ i := by omega
      go_wp2_with fail
      go_ret
      exact RowRet.nil w
end Go.Proofs.Ytkeiphmhckkniaa
