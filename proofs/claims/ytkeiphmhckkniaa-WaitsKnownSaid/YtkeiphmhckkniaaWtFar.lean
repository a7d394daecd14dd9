/-
  Walk of waits.Graph.far.
  No condition but sizes.
-/
import Derived.Test.YtkeiphmhckkniaaWtRows
import Derived.Test.YtkeiphmhckkniaaWtFarP
namespace Go.Proofs.Ytkeiphmhckkniaa
open Go Go.RowKit Go.Shelf

attribute [local go_sem] Oper.semAt_some
def Far1 (G : List (List Int)) (s : Nat) (ga : Option Addr) (gcap gb bbx : Nat) (w : World) (a : Act) (W : World) : Prop := ∃ (m : Nat) (ds : List Nat) (u : Nat → Value), a = { tmps := #[.slice ga G.length gcap, .int .i64 (s : Int), u 2, u 3, .slice none 0 0, .pointer (some ⟨bbx, 0, none⟩), u 6, u 7, u 8, u 9, u 10, u 11, u 12, u 13, u 14, u 15, .int .i64 (G.length : Int), .int .i64 (m : Int), u 18, u 19, u 20, u 21, u 22, u 23, u 24, u 25, u 26, u 27, u 28, u 29, u 30, u 31, u 32, u 33, u 34, u 35, u 36, u 37, u 38, u 39, u 40, u 41, u 42, u 43, u 44, u 45, u 46, u 47, u 48, u 49, u 50, u 51, u 52, u 53, u 54, u 55, u 56, u 57, u 58, u 59, u 60, u 61, u 62, u 63, u 64, u 65, u 66, u 67, u 68, u 69, u 70, u 71, u 72, u 73, u 74, u 75, u 76, u 77, u 78, u 79, u 80, u 81, u 82, u 83], defers := ds.map markD } ∧ m ≤ G.length ∧
      Lies w W (marksT ds :: [gT (.slice (some ⟨gb, 0, none⟩) G.length G.length) (backP G m), bkT bbx 23 [.slice (some ⟨gb, 0, none⟩) G.length G.length]])
theorem Far1.mk {G : List (List Int)} {s : Nat} {ga : Option Addr} {gcap gb bbx : Nat} {w : World} {a : Act} {W : World} (h : ∃ (m : Nat) (ds : List Nat) (u : Nat → Value), a = { tmps := #[.slice ga G.length gcap, .int .i64 (s : Int), u 2, u 3, .slice none 0 0, .pointer (some ⟨bbx, 0, none⟩), u 6, u 7, u 8, u 9, u 10, u 11, u 12, u 13, u 14, u 15, .int .i64 (G.length : Int), .int .i64 (m : Int), u 18, u 19, u 20, u 21, u 22, u 23, u 24, u 25, u 26, u 27, u 28, u 29, u 30, u 31, u 32, u 33, u 34, u 35, u 36, u 37, u 38, u 39, u 40, u 41, u 42, u 43, u 44, u 45, u 46, u 47, u 48, u 49, u 50, u 51, u 52, u 53, u 54, u 55, u 56, u 57, u 58, u 59, u 60, u 61, u 62, u 63, u 64, u 65, u 66, u 67, u 68, u 69, u 70, u 71, u 72, u 73, u 74, u 75, u 76, u 77, u 78, u 79, u 80, u 81, u 82, u 83], defers := ds.map markD } ∧ m ≤ G.length ∧
      Lies w W (marksT ds :: [gT (.slice (some ⟨gb, 0, none⟩) G.length G.length) (backP G m), bkT bbx 23 [.slice (some ⟨gb, 0, none⟩) G.length G.length]])) : Far1 G s ga gcap gb bbx w a W := h
def farL (bv : Value) (BG : List (List Int)) (bbx fb n fbx : Nat) (F : List Int) : List Thing := [gT bv BG, bkT bbx 23 [bv], owT (.slice (some ⟨fb, 0, none⟩) n n) F, bkT fbx 27 [.slice (some ⟨fb, 0, none⟩) n n]]
def Far2 (G : List (List Int)) (s : Nat) (ga : Option Addr) (gcap gb bbx fb fbx : Nat) (ds : List Nat) (w : World) (a : Act) (W : World) : Prop := ∃ (m : Nat) (u : Nat → Value), a = { tmps := #[.slice ga G.length gcap, .int .i64 (s : Int), u 2, u 3, .slice none 0 0, .pointer (some ⟨bbx, 0, none⟩), u 6, u 7, .pointer (some ⟨fbx, 0, none⟩), u 9, u 10, u 11, u 12, u 13, u 14, u 15, u 16, u 17, u 18, u 19, u 20, u 21, u 22, u 23, u 24, u 25, u 26, u 27, u 28, u 29, u 30, u 31, u 32, u 33, u 34, u 35, u 36, u 37, u 38, .int .i64 (G.length : Int), .int .i64 (m : Int), u 41, u 42, u 43, u 44, u 45, u 46, u 47, u 48, u 49, u 50, u 51, u 52, u 53, u 54, u 55, u 56, u 57, u 58, u 59, u 60, u 61, u 62, u 63, u 64, u 65, u 66, u 67, u 68, u 69, u 70, u 71, u 72, u 73, u 74, u 75, u 76, u 77, u 78, u 79, u 80, u 81, u 82, u 83], defers := ds.map markD } ∧ m ≤ G.length ∧
      Lies w W (marksT ds :: farL (.slice (some ⟨gb, 0, none⟩) G.length G.length) (backP G G.length) bbx fb G.length fbx (List.replicate m (-1) ++ List.replicate (G.length - m) 0))
theorem Far2.mk {G : List (List Int)} {s : Nat} {ga : Option Addr} {gcap gb bbx fb fbx : Nat} {ds : List Nat} {w : World} {a : Act} {W : World} (h : ∃ (m : Nat) (u : Nat → Value), a = { tmps := #[.slice ga G.length gcap, .int .i64 (s : Int), u 2, u 3, .slice none 0 0, .pointer (some ⟨bbx, 0, none⟩), u 6, u 7, .pointer (some ⟨fbx, 0, none⟩), u 9, u 10, u 11, u 12, u 13, u 14, u 15, u 16, u 17, u 18, u 19, u 20, u 21, u 22, u 23, u 24, u 25, u 26, u 27, u 28, u 29, u 30, u 31, u 32, u 33, u 34, u 35, u 36, u 37, u 38, .int .i64 (G.length : Int), .int .i64 (m : Int), u 41, u 42, u 43, u 44, u 45, u 46, u 47, u 48, u 49, u 50, u 51, u 52, u 53, u 54, u 55, u 56, u 57, u 58, u 59, u 60, u 61, u 62, u 63, u 64, u 65, u 66, u 67, u 68, u 69, u 70, u 71, u 72, u 73, u 74, u 75, u 76, u 77, u 78, u 79, u 80, u 81, u 82, u 83], defers := ds.map markD } ∧ m ≤ G.length ∧
      Lies w W (marksT ds :: farL (.slice (some ⟨gb, 0, none⟩) G.length G.length) (backP G G.length) bbx fb G.length fbx (List.replicate m (-1) ++ List.replicate (G.length - m) 0))) : Far2 G s ga gcap gb bbx fb fbx ds w a W := h
def far3L (bv : Value) (BG : List (List Int)) (bbx fb n fbx lbx : Nat) (lv : Value) (Q F : List Int) : List Thing := [gT bv BG, bkT bbx 23 [bv], owT (.slice (some ⟨fb, 0, none⟩) n n) F, bkT fbx 27 [.slice (some ⟨fb, 0, none⟩) n n], quT lv Q, bkT lbx 27 [lv]]
def Far3 (G : List (List Int)) (s : Nat) (ga : Option Addr) (gcap gb bbx fb fbx d0 : Nat) (w : World) (a : Act) (W : World) : Prop := ∃ (lbx : Nat) (lv : Value) (Q F : List Int) (ds : List Nat) (u : Nat → Value), a = { tmps := #[.slice ga G.length gcap, .int .i64 (s : Int), u 2, u 3, .slice none 0 0, .pointer (some ⟨bbx, 0, none⟩), u 6, u 7, .pointer (some ⟨fbx, 0, none⟩), u 9, .pointer (some ⟨lbx, 0, none⟩), u 11, u 12, u 13, u 14, u 15, u 16, u 17, u 18, u 19, u 20, u 21, u 22, u 23, u 24, u 25, u 26, u 27, u 28, u 29, u 30, u 31, u 32, u 33, u 34, u 35, u 36, u 37, u 38, u 39, u 40, u 41, u 42, u 43, u 44, u 45, u 46, u 47, u 48, u 49, u 50, u 51, u 52, u 53, u 54, u 55, u 56, u 57, u 58, u 59, u 60, u 61, u 62, u 63, u 64, u 65, u 66, u 67, u 68, u 69, u 70, u 71, u 72, u 73, u 74, u 75, u 76, u 77, u 78, u 79, u 80, u 81, u 82, u 83], defers := ds.map markD } ∧ FQ G s Q F ∧ Q.length + ds.length ≤ d0 + setc F ∧
      Lies w W (marksT ds :: far3L (.slice (some ⟨gb, 0, none⟩) G.length G.length) (backP G G.length) bbx fb G.length fbx lbx lv Q F)
theorem Far3.mk {G : List (List Int)} {s : Nat} {ga : Option Addr} {gcap gb bbx fb fbx d0 : Nat} {w : World} {a : Act} {W : World} (h : ∃ (lbx : Nat) (lv : Value) (Q F : List Int) (ds : List Nat) (u : Nat → Value), a = { tmps := #[.slice ga G.length gcap, .int .i64 (s : Int), u 2, u 3, .slice none 0 0, .pointer (some ⟨bbx, 0, none⟩), u 6, u 7, .pointer (some ⟨fbx, 0, none⟩), u 9, .pointer (some ⟨lbx, 0, none⟩), u 11, u 12, u 13, u 14, u 15, u 16, u 17, u 18, u 19, u 20, u 21, u 22, u 23, u 24, u 25, u 26, u 27, u 28, u 29, u 30, u 31, u 32, u 33, u 34, u 35, u 36, u 37, u 38, u 39, u 40, u 41, u 42, u 43, u 44, u 45, u 46, u 47, u 48, u 49, u 50, u 51, u 52, u 53, u 54, u 55, u 56, u 57, u 58, u 59, u 60, u 61, u 62, u 63, u 64, u 65, u 66, u 67, u 68, u 69, u 70, u 71, u 72, u 73, u 74, u 75, u 76, u 77, u 78, u 79, u 80, u 81, u 82, u 83], defers := ds.map markD } ∧ FQ G s Q F ∧ Q.length + ds.length ≤ d0 + setc F ∧
      Lies w W (marksT ds :: far3L (.slice (some ⟨gb, 0, none⟩) G.length G.length) (backP G G.length) bbx fb G.length fbx lbx lv Q F)) : Far3 G s ga gcap gb bbx fb fbx d0 w a W := h
structure FE where
  lv : Value
  Q : List Int
  F : List Int
theorem fill_set (n m : Nat) (h : m < n) : (List.replicate m (-1 : Int) ++ List.replicate (n - m) 0).set m (-1) = List.replicate (m + 1) (-1) ++ List.replicate (n - (m + 1)) 0 := by
  obtain ⟨k, rfl⟩ : ∃ k, n = m + k + 1 := ⟨n - m - 1, by omega⟩
  rw [List.set_append_right _ _ (by simp), List.length_replicate, Nat.sub_self, show m + k + 1 - m = k + 1 by omega, show m + k + 1 - (m + 1) = k by omega, List.replicate_succ, List.set_cons_zero, List.replicate_succ']
  simp
set_option maxRecDepth 100000 in
set_option maxHeartbeats 4000000 in
theorem far_any (gv : Value) (G : List (List Int)) (s : Nat) (w : World) (h : GraphAt w gv G) (hs : s < G.length) (hl : G.length ≤ 1000) :
    Calls Try.prog 31 #[gv, .int .i64 (s : Int)] w fun e w' => ∃ F b cap, FarOk G s F ∧ e = .returned (.slice (some ⟨b, 0, none⟩) F.length cap) ∧ OwnInts w' 3 (.slice (some ⟨b, 0, none⟩) F.length cap) F ∧ NewFrom w.heap.size (.slice (some ⟨b, 0, none⟩) F.length cap) ∧ Fr w w' Nil := by
  obtain ⟨ir, hir, hr0, hr1, hr2⟩ := info_parts (P := Try.prog) (e := 27) (z := .slice none 0 0) (size := 1) (bytes := 24) (by kernel_rfl)
  obtain ⟨ii, hii, hi0, hi1, hi2⟩ := info_parts (P := Try.prog) (e := 3) (z := .int .i64 0) (size := 1) (bytes := 8) (by kernel_rfl)
  obtain ⟨ga, gcap, rfl⟩ := h.shape
  have HG := Lib.hid h
  have hss : (s : Int) < (G.length : Int) := by omega
  have Hb2 : Hid (G.length ≤ maxLen) := by
    have : G.length ≤ maxLen := by unfold maxLen; omega
    exact this
  obtain ⟨w1, hrun, hown, hgr⟩ := run_make_full (P := Try.prog) w 0 23 27 ir (.slice none 0 0) 1 Try.underlying23 hir hr0 hr1 .i64 .i64 G.length (by rw [hr2]; omega) Hb2.out (Nat.zero_le _)
  have hm : Lies w w [marksT []] := (Lies.nil (Fr.refl w Nil)).add (marksT []) (S := fun _ => False) ⟨⟨List.Pairwise.nil, fun D hD => by cases hD⟩, fun k => ⟨fun h => h.elim, fun h => by cases h⟩⟩ (fun k hk => hk.elim) (Fr.refl w Nil)
  have HL0 := Lib.hid ((hm.gmade rfl hown ((Fr.refl w Nil).grown hgr (fun k hk => by cases hk))).newBk 23 #[.slice (some ⟨w.heap.size, 0, none⟩) G.length G.length])
  clear h hown hgr hm
  refine (callsIn_wide (n := 8)).1 ?_
  refine callsIn_of_wp_marks Try.func31 rfl trivial ?_ rfl
  simp only [Try.ntmps31, List.size_toArray, List.length_cons, List.length_nil, Nat.reduceAdd, Nat.reduceSub, Array.replicate_succ, Array.replicate_zero, List.push_toArray, List.append_toArray, List.nil_append, List.cons_append]
  gi_wp2
  generalize w.heap.size = gb at HL0 ⊢
  obtain ⟨bbx, hbbx⟩ : ∃ b, w1.heap.size = b := ⟨_, rfl⟩
  rw [hbbx] at HL0 ⊢
  clear hbbx hrun
  refine wpIn_loop (Far1 G s ga gcap gb bbx w)
    (fun a W => G.length - (intOf (a.tmps.getD 17 undef)).toNat) ?start ?round
  case start => exact Far1.mk ⟨0, [], useU rfl ⟨by omega, HL0.out⟩⟩
  case round =>
    rintro a W ⟨m, ds, u, rfl, hmn, hL⟩
    have HL := Lib.hid hL
    clear hL HL0
    by_cases hlt : m < G.length
    · have hml : (m : Int) < (G.length : Int) := by omega
      gi_wp2
      refine ⟨trivial, ?_⟩
      have HLb := Lib.hid (HL.out.newBk 3 #[.int .i64 (m : Int)])
      refine (callsIn_wide.2 (of_any _ G m _ (HG.out.fr0 HLb.out.fr) hlt)).mono ?_
      rintro e W1 hr
      obtain ⟨Bs, av, ac, rfl, hL1⟩ := HLb.out.of hr
      have HL1 := Lib.hid hL1
      clear hr hL1
      generalize W.heap.size = ibx at HL1 HLb ⊢
      gi_wp2
      refine wpIn_range_of 7 (by decide) (Bs := Bs) (cap := ac) (av := av) (es := ofP G m) rfl (by have := ofP_few G m; omega)
        (E := List (List Int)) (fun e => [gT (.slice (some ⟨gb, 0, none⟩) G.length G.length) e, bkT bbx 23 [.slice (some ⟨gb, 0, none⟩) G.length G.length], bkT ibx 3 [.int .i64 (m : Int)]])
        (fun pre e => e = brow m pre (backP G m)) ds ?cells ⟨backP G m, HL1.out, rfl⟩ ?assign ?body ?done
      case cells =>
        intro e y hy
        simp only [List.mem_cons, List.not_mem_nil, or_false] at hy
        rcases hy with rfl | rfl | rfl
        all_goals first | exact cells_g _ _ | exact cells_bk _ _ _
      case assign =>
        intro l x W K hK
        gi_wp2
        exact hK
      case body =>
        rintro l pre x W2 e hx hlt2 hL2 rfl
        obtain ⟨k, rfl⟩ : ∃ k : Nat, x = (k : Int) := ⟨x.toNat, by have := (mem_ofP.1 hx).2.1; omega⟩
        have hk : k < G.length := by have := (mem_ofP.1 hx).2.2; omega
        have hkk : (k : Int) < (G.length : Int) := by omega
        have hbl : (brow m pre (backP G m)).length = G.length := by rw [brow_len, backP_len]
        have hrow := brow_row (i := m) (k := k) (N := m) pre (backP G m) (fun k => backP_row G m k)
        have hfew := ofP_few G m
        have HBP : Hid (bput m (brow m pre (backP G m)) (k : Int) = brow m (pre ++ [(k : Int)]) (backP G m)) := by
          have : bput m (brow m pre (backP G m)) (k : Int) = brow m (pre ++ [(k : Int)]) (backP G m) := by simp [brow]
          exact this
        generalize brow m pre (backP G m) = Bk at *
        have hxk : Bk[k]? = some (Bk.getD k []) := by rw [List.getD_eq_getElem?_getD, List.getElem?_eq_getElem (by omega)]; rfl
        have HBP2 : Hid (Bk.set k (Bk.getD k [] ++ [(m : Int)]) = brow m (pre ++ [(k : Int)]) (backP G m)) := by
          have h1 := HBP.out
          unfold bput at h1
          rw [Int.toNat_natCast] at h1
          exact Lib.hid h1
        generalize Bk.getD k [] = xs at *
        have hxl : xs.length ≤ 100000 := by omega
        obtain ⟨ua, uc, q4, HRow, qf4⟩ := hL2.gcell 1 rfl k xs hxk
        have q0 := (hL2.bk 2 rfl).cell 0
        have q1 := (hL2.bk 3 rfl).cell 0
        have HK0 := Lib.hid (LK.start hL2 W1.heap.size).drew
        clear HRow hL2 qf4 hrow hfew HBP
        dsimp only [setX]
        try simp only [List.setIfInBounds_toArray, List.set_cons_zero, List.set_cons_succ]
        have hS : (fun w' : World => w'.cell? ⟨bbx, 0, none⟩ = some (.slice (some ⟨gb, 0, none⟩) G.length G.length) ∧ w'.cell? ⟨ibx, 0, none⟩ = some (.int .i64 (m : Int)) ∧ w'.cell? ⟨gb, k, none⟩ = some (.slice ua xs.length uc)) W2.drew := ⟨q0, q1, q4⟩
        gi_wp2
        refine wpIn_region_sink 10 (fun w' : World => w'.cell? ⟨bbx, 0, none⟩ = some (.slice (some ⟨gb, 0, none⟩) G.length G.length) ∧ w'.cell? ⟨ibx, 0, none⟩ = some (.int .i64 (m : Int)) ∧ w'.cell? ⟨gb, k, none⟩ = some (.slice ua xs.length uc)) (by kernel_rfl) (by kernel_rfl) ?_
        generalize W2.drew = W3 at *
        clear q0 q1 q4
        refine wpAnyS_take (i := 0) (v := ?_) rfl (by kernel_rfl) (fun _ _ _ h => h) (by rfl) hS ?_ ?_
        rotate_left
        · intro w' hS'
          (try dsimp only at hS')
          go_simp <;> with_reducible rfl
        try simp only [Act.put, List.setIfInBounds_toArray, List.set_cons_zero, List.set_cons_succ]
        refine wpAnyS_take (i := 1) (v := ?_) rfl (by kernel_rfl) (fun _ _ _ h => h) (by rfl) hS ?_ ?_
        rotate_left
        · intro w' hS'
          (try dsimp only at hS')
          go_simp <;> with_reducible rfl
        try simp only [Act.put, List.setIfInBounds_toArray, List.set_cons_zero, List.set_cons_succ]
        refine wpAnyS_take (i := 2) (v := ?_) rfl (by kernel_rfl) (fun _ _ _ h => h) (by rfl) hS ?_ ?_
        rotate_left
        · intro w' hS'
          (try dsimp only at hS')
          go_simp <;> with_reducible rfl
        try simp only [Act.put, List.setIfInBounds_toArray, List.set_cons_zero, List.set_cons_succ]
        refine wpAnyS_take (i := 3) (v := ?_) rfl (by kernel_rfl) (fun _ _ _ h => h) (by rfl) hS ?_ ?_
        rotate_left
        · intro w' hS'
          (try dsimp only at hS')
          go_simp <;> with_reducible rfl
        try simp only [Act.put, List.setIfInBounds_toArray, List.set_cons_zero, List.set_cons_succ]
        refine wpAnyS_take (i := 4) (v := ?_) rfl (by kernel_rfl) (fun _ _ _ h => h) (by rfl) hS ?_ ?_
        rotate_left
        · intro w' hS'
          (try dsimp only at hS')
          go_simp <;> with_reducible rfl
        try simp only [Act.put, List.setIfInBounds_toArray, List.set_cons_zero, List.set_cons_succ]
        refine wpAnyS_take (i := 5) (v := ?_) rfl (by kernel_rfl) (fun _ _ _ h => h) (by rfl) hS ?_ ?_
        rotate_left
        · intro w' hS'
          (try dsimp only at hS')
          go_simp <;> with_reducible rfl
        try simp only [Act.put, List.setIfInBounds_toArray, List.set_cons_zero, List.set_cons_succ]
        refine wpAnyS_take (i := 6) (v := ?_) rfl (by kernel_rfl) (fun _ _ _ h => h) (by rfl) hS ?_ ?_
        rotate_left
        · intro w' hS'
          (try dsimp only at hS')
          go_simp <;> with_reducible rfl
        try simp only [Act.put, List.setIfInBounds_toArray, List.set_cons_zero, List.set_cons_succ]
        refine wpAnyS_one (i := 7) rfl (by kernel_rfl) (by decide) (by rfl) fun K hK => ?_
        go_simp
        have HK1 := Lib.hid (HK0.out.newBk 3 #[.int .i64 (m : Int)])
        have hf1 : Fr W3 (W3.alloc (.cells #[.int .i64 (m : Int)] 3)) Nil := (Fr.refl W3 Nil).alloc _
        refine hK.out _ _ ⟨hf1.cell hS.1 (fun h => h), hf1.cell hS.2.1 (fun h => h), hf1.cell hS.2.2 (fun h => h)⟩ ?_
        have q4 := hf1.cell hS.2.2 (fun h => h)
        clear hK K hf1 hS
        try simp only [Act.put, List.setIfInBounds_toArray, List.set_cons_zero, List.set_cons_succ]
        generalize W3.alloc (.cells #[.int .i64 (m : Int)] 3) = W4 at *
        refine wpAnyS_one (i := 8) rfl (by kernel_rfl) (by decide) (by rfl) fun K hK => ?_
        refine wp_gapp _ _ (by rfl) HK1.out (k := k) (xs := xs) (y := (m : Int)) (by rfl) (by rfl) 1 rfl hxk q4 5 rfl hxl ?_
        intro a5 c5 W5 hk5 q5 qf5 hk6
        have HK6 := Lib.hid hk6
        have hS5 : (fun w' : World => w'.cell? ⟨bbx, 0, none⟩ = some (.slice (some ⟨gb, 0, none⟩) G.length G.length) ∧ w'.cell? ⟨ibx, 0, none⟩ = some (.int .i64 (m : Int)) ∧ w'.cell? ⟨gb, k, none⟩ = some (.slice ua xs.length uc)) W5 := ⟨(hk5.1.bk 2 rfl).cell 0, (hk5.1.bk 3 rfl).cell 0, q5⟩
        refine hK.out _ _ hS5 ?_
        clear hK K hk5 hk6
        try simp only [Act.put, List.setIfInBounds_toArray, List.set_cons_zero, List.set_cons_succ]
        refine wpAnyS_take (i := 9) (v := ?_) rfl (by kernel_rfl) (fun _ _ _ h => h) (by rfl) hS5 ?_ ?_
        rotate_left
        · intro w' hS'
          (try dsimp only at hS')
          go_simp <;> with_reducible rfl
        try simp only [Act.put, List.setIfInBounds_toArray, List.set_cons_zero, List.set_cons_succ]
        refine wpAnyS_last (i := 10) rfl (by kernel_rfl) (by decide) (by kernel_rfl) (by rfl) fun K hK => ?_
        go_simp
        refine hK.out _ _ ?_
        clear hK K
        have h7 := HK6.out.take 5
        rw [HBP2.out] at h7
        exact ⟨_, h7, rfl⟩
      case done =>
        rintro D W2 e hL2 rfl
        rw [← backP_succ] at hL2
        have HL2 := Lib.hid (hL2.take 3)
        clear hL2
        gi_wp2
        exact ⟨Far1.mk ⟨m + 1, D :: ds, useU rfl ⟨by omega, HL2.out⟩⟩, by simp [intOf]; omega⟩
    · obtain rfl : m = G.length := by omega
      obtain ⟨w2, hrun2, hown2, hgr2⟩ := run_make_full (P := Try.prog) W 0 27 3 ii (.int .i64 0) 1 Try.underlying27 hii hi0 hi1 .i64 .i64 G.length (by rw [hi2]; omega) Hb2.out (Nat.zero_le _)
      have hown3 : OwnInts w2 3 (.slice (some ⟨W.heap.size, 0, none⟩) (List.replicate G.length (0 : Int)).length G.length) (List.replicate G.length (0 : Int)) := by
        have e : (madeCells (Value.int .i64 0).cells (G.length * 1)).toList = List.replicate G.length (Value.int .i64 0) := by
          rw [Nat.mul_one]; exact toList_madeCells_one _ _
        rw [e] at hown2
        unfold OwnInts
        rw [List.map_replicate, List.length_replicate]
        exact hown2
      have HL2 := Lib.hid ((HL.out.add (owT _ (List.replicate G.length (0 : Int))) (S := fun k => k = W.heap.size) ⟨hown3, fun k => ⟨fun e => by rw [e]; rfl, fun e => by cases e; rfl⟩⟩ (fun k hk => by omega) ((Fr.refl W Nil).grown hgr2 (fun k hk => by cases hk))).newBk 27 #[.slice (some ⟨W.heap.size, 0, none⟩) G.length G.length])
      simp only [List.length_replicate] at HL2
      clear hown2 hown3 hgr2
      gi_wp2
      generalize W.heap.size = fb at HL2 ⊢
      obtain ⟨fbx, hfbx⟩ : ∃ b, w2.heap.size = b := ⟨_, rfl⟩
      rw [hfbx] at HL2 ⊢
      clear hfbx hrun2
      refine wpIn_loop (Far2 G s ga gcap gb bbx fb fbx ds w) (fun a W => G.length - (intOf (a.tmps.getD 40 undef)).toNat) ?start2 ?round2
      case start2 => exact Far2.mk ⟨0, useU rfl ⟨by omega, HL2.out⟩⟩
      case round2 =>
        clear HL HL2
        rintro a W3 ⟨m, u3, rfl, hmn3, hL3⟩
        have HL3 := Lib.hid hL3
        have q0 := (hL3.bk 4 rfl).cell 0
        have HO3 := Lib.hid (hL3.row 3 rfl)
        clear hL3 hmn
        by_cases hlt : m < G.length
        · have hml : (m : Int) < (G.length : Int) := by omega
          have q1 := HO3.out.cell (by simp; omega) m (by simp; omega)
          have qf1 := HO3.out.free (by simp; omega) m
          have HL4 := HL3.out.storedI 3 rfl m (-1)
          rw [fill_set _ _ hlt] at HL4
          have HL4 := Lib.hid HL4
          gi_wp2
          exact ⟨Far2.mk ⟨m + 1, useU rfl ⟨by omega, HL4.out⟩⟩, by simp [intOf]; omega⟩
        · obtain rfl : m = G.length := by omega
          have q1 := HO3.out.cell (by simp) s (by simp; omega)
          have qf1 := HO3.out.free (by simp) s
          have HL4 := HL3.out.storedI 3 rfl s 0
          rw [Nat.sub_self, List.replicate_zero, List.append_nil] at HL4
          have HL5 := HL4.add (quT (.slice (some ⟨(W3.setCell ⟨fb, s, none⟩ (.int .i64 0)).heap.size, 0, none⟩) 1 1) [(s : Int)]) (S := fun k => k = (W3.setCell ⟨fb, s, none⟩ (.int .i64 0)).heap.size) ⟨QAt.one _ s, fun k => ⟨fun e => by rw [e]; rfl, fun e => by cases e; rfl⟩⟩ (fun k hk => by omega) ((Fr.refl _ Nil).alloc _)
          have HL6 := Lib.hid (HL5.newBk 27 #[.slice (some ⟨(W3.setCell ⟨fb, s, none⟩ (.int .i64 0)).heap.size, 0, none⟩) 1 1])
          clear HL4 HL5
          gi_wp2
          have esz : (W3.setCell ⟨fb, s, none⟩ (.int .i64 0)).heap.size = W3.heap.size := by simp
          simp only [World.size_alloc, esz] at HL6
          clear esz
          generalize W3.setCell ⟨fb, s, none⟩ (.int .i64 0) = W4 at *
          refine wpIn_loop (Far3 G s ga gcap gb bbx fb fbx ds.length w) (fun a W => ds.length + G.length + 1 - a.defers.length) ?start3 ?round3
          case start3 => exact Far3.mk ⟨_, _, _, _, ds, useU rfl ⟨FQ.start hs, by have := (FQ.start hs).qlen; omega, HL6.out⟩⟩
          case round3 =>
            clear HL3 HL6 HO3 q1 qf1 q0
            rintro a W5 ⟨lbx, lv, Q, F, es, u5, rfl, hQ, hcnt, hL5⟩
            have HL5 := Lib.hid hL5
            have HQ := Lib.hid hQ
            have q8 := (hL5.bk 4 rfl).cell 0
            have q10 := (hL5.bk 6 rfl).cell 0
            have q5 := (hL5.bk 2 rfl).cell 0
            have HSC : Hid (setc F ≤ G.length) := by
              have : setc F ≤ G.length := by rw [← hQ.len]; exact setc_le F
              exact this
            clear hL5 hQ
            rcases Q with _ | ⟨x, Q⟩
            · obtain ⟨b, off, cap, cur, rfl, -, -, -, -⟩ := HL5.out.queue 5 rfl
              simp only [List.length_nil] at q10
              gi_wp2
              have hm := HL5.out.marks 0 rfl
              refine leaves_marks es W5 hm.1 hm.2.1 fun W' hf => ?_
              have h3 := HL5.out.leave hf
              have h4 := h3.row 2 rfl
              have h5 := h3.newFrom 2 rfl
              have h6 := HQ.out.done
              have e6 : G.length = F.length := HQ.out.len.symm
              rw [e6] at h4 h5 ⊢
              exact ⟨_, results_tmp rfl _ _ _, F, fb, F.length, h6, rfl, h4, h5, h3.fr⟩
            · obtain ⟨b, off, cap, rfl, hc0, hcap⟩ := (HL5.out.queue 5 rfl).head
              obtain ⟨t, rfl, ht, -⟩ := HQ.out.qin x (by simp)
              have HGB := Lib.hid (HL5.out.graph 1 rfl fun xs hx => by
                obtain ⟨j, hj, rfl⟩ := List.mem_iff_getElem.1 hx
                have h1 := backP_row G G.length j
                rw [List.getD_eq_getElem?_getD, List.getElem?_eq_getElem hj] at h1
                have h2 : (backP G G.length)[j].length ≤ G.length := h1
                omega)
              gi_wp2
              refine wpIn_region_sinkW 4 (fun w' : World => w'.cell? ⟨bbx, 0, none⟩ = some (.slice (some ⟨gb, 0, none⟩) G.length G.length) ∧ w'.cell? ⟨lbx, 0, none⟩ = some (.slice (some ⟨b, off, none⟩) (Q.length + 1) cap) ∧ w'.cell? ⟨b, off, none⟩ = some (.int .i64 (t : Int))) (by kernel_rfl) (by kernel_rfl) ?_
              have hS : (fun w' : World => w'.cell? ⟨bbx, 0, none⟩ = some (.slice (some ⟨gb, 0, none⟩) G.length G.length) ∧ w'.cell? ⟨lbx, 0, none⟩ = some (.slice (some ⟨b, off, none⟩) (Q.length + 1) cap) ∧ w'.cell? ⟨b, off, none⟩ = some (.int .i64 (t : Int))) W5.drew := ⟨q5, q10, hc0⟩
              have HL6 := Lib.hid (HL5.out.fr0 (Fr.refl W5 Nil).drew)
              have HGB6 := Lib.hid (HGB.out.fr0 (Fr.refl W5 Nil).drew)
              clear q5 q10 hc0 HGB
              generalize W5.drew = W6 at *
              refine wpAnyS_take (i := 0) (v := ?_) rfl (by kernel_rfl) (fun _ _ _ h => h) (by rfl) hS ?_ ?_
              rotate_left
              · intro w' hS'
                (try dsimp only at hS')
                go_simp <;> with_reducible rfl
              try simp only [Act.put, List.setIfInBounds_toArray, List.set_cons_zero, List.set_cons_succ]
              refine wpAnyS_take (i := 1) (v := ?_) rfl (by kernel_rfl) (fun _ _ _ h => h) (by rfl) hS ?_ ?_
              rotate_left
              · intro w' hS'
                (try dsimp only at hS')
                go_simp <;> with_reducible rfl
              try simp only [Act.put, List.setIfInBounds_toArray, List.set_cons_zero, List.set_cons_succ]
              refine wpAnyS_take (i := 2) (v := ?_) rfl (by kernel_rfl) (fun _ _ _ h => h) (by rfl) hS ?_ ?_
              rotate_left
              · intro w' hS'
                (try dsimp only at hS')
                go_simp <;> with_reducible rfl
              try simp only [Act.put, List.setIfInBounds_toArray, List.set_cons_zero, List.set_cons_succ]
              refine wpAnyS_take (i := 3) (v := ?_) rfl (by kernel_rfl) (fun _ _ _ h => h) (by rfl) hS ?_ ?_
              rotate_left
              · intro w' hS'
                (try dsimp only at hS')
                go_simp <;> with_reducible rfl
              try simp only [Act.put, List.setIfInBounds_toArray, List.set_cons_zero, List.set_cons_succ]
              refine wpAnyS_last (i := 4) rfl (by kernel_rfl) (by decide) (by kernel_rfl) (by rfl) fun K hK => ?_
              go_simp
              have hbl : (backP G G.length).length = G.length := backP_len G G.length
              refine (of_any _ (backP G G.length) t W6 HGB6.out (by rw [hbl]; exact ht)).mono ?_
              rintro e W7 hr
              obtain ⟨Bs, av, ac, rfl, hL7⟩ := HL6.out.of hr
              have HL7 := Lib.hid hL7
              refine hK.out _ _ ?_
              clear hK K hr hL7 hS
              have hESL : (ofP (backP G G.length) t).length ≤ 1000000 := by
                have := ofP_few (backP G G.length) t
                omega
              have HES : Hid (∀ k : Nat, (k : Int) ∈ ofP (backP G G.length) t → k < G.length ∧ sees G k t = true) := fun k hk => (mem_back ht).1 hk
              have HEN : Hid (∀ x ∈ ofP (backP G G.length) t, 0 ≤ x) := fun x hx => (ofP_in x hx).1
              have HED : Hid (∀ k : Nat, k < G.length → sees G k t = true → (k : Int) ∈ ofP (backP G G.length) t) := fun k hk hs => (mem_back ht).2 ⟨hk, hs⟩
              generalize ofP (backP G G.length) t = xs at *
              clear hbl HGB6
              dsimp only [OnlyEnd]
              gi_wp2
              refine wpIn_range_of 11 (by decide) (Bs := Bs) (cap := ac) (av := av) (es := xs) rfl hESL
                (E := FE) (fun e => far3L (.slice (some ⟨gb, 0, none⟩) G.length G.length) (backP G G.length) bbx fb G.length fbx lbx e.lv e.Q e.F)
                (fun pre e => FQ G s e.Q e.F ∧ (∃ Q', e.Q = (t : Int) :: Q') ∧ (∀ y ∈ pre, 0 ≤ e.F.getD y.toNat 0) ∧ e.Q.length + es.length ≤ ds.length + setc e.F) es ?cells ⟨⟨_, _, _⟩, HL7.out, HQ.out, ⟨Q, rfl⟩, (fun y hy => by cases hy), hcnt⟩ ?assign ?body ?done
              case cells =>
                intro e y hy
                simp only [far3L, List.mem_cons, List.not_mem_nil, or_false] at hy
                rcases hy with rfl | rfl | rfl | rfl | rfl | rfl
                all_goals first | exact cells_g _ _ | exact cells_bk _ _ _ | exact cells_qu _ _ | exact cells_ow _ _
              case assign =>
                intro l x W K hK
                gi_wp2
                exact hK
              case body =>
                rintro l pre x W8 ⟨lv2, Q2, F2⟩ hx hlt2 hL8 ⟨hq2, ⟨Q2, rfl⟩, hpre, hcnt2⟩
                dsimp only at hL8 hq2 hpre hcnt2
                obtain ⟨k, rfl⟩ : ∃ k : Nat, x = (k : Int) := ⟨x.toNat, by have := HEN.out x hx; omega⟩
                obtain ⟨hk, hsee⟩ := HES.out k hx
                have hkk : (k : Int) < (G.length : Int) := by omega
                have htt : (t : Int) < (G.length : Int) := by omega
                obtain ⟨lb, lo, lc, rfl, qx, hlc⟩ := (hL8.queue 5 rfl).head
                have HO8 := hL8.row 3 rfl
                have q1 := HO8.cell hq2.len.symm k (by rw [hq2.len]; exact hk)
                have qf1 := HO8.free hq2.len.symm k
                have qt := HO8.cell hq2.len.symm t (by rw [hq2.len]; exact ht)
                have q8 := (hL8.bk 4 rfl).cell 0
                have q10 := (hL8.bk 6 rfl).cell 0
                have HQ2 := Lib.hid hq2
                have HK0 := Lib.hid (LK.start hL8 W7.heap.size)
                obtain ⟨_, e, _, ht0⟩ := hq2.qin (t : Int) (by simp)
                obtain rfl := Int.ofNat_inj.1 e
                obtain ⟨d, hd, -⟩ := (hq2.low t ht).resolve_left (by omega)
                have hsm := hq2.small t ht
                have hset : setc F2 ≤ G.length := by rw [← hq2.len]; exact setc_le F2
                rw [hd] at qt
                have hdl : (d : Int) < 1000 := by omega
                have HD := Lib.hid hd
                clear HO8 hL8 hq2 e ht0 hd hsm
                dsimp only [setX]
                try simp only [List.setIfInBounds_toArray, List.set_cons_zero, List.set_cons_succ]
                by_cases hneg : F2.getD k 0 < 0
                · have HP := Lib.hid (HQ2.out.push hk hsee hneg)
                  have hneg2 := hneg
                  generalize hfv : F2.getD k 0 = fv at q1 hneg2
                  clear hfv
                  gi_wp2
                  refine wpIn_region_sink 10 (fun w' : World => w'.cell? ⟨fbx, 0, none⟩ = some (.slice (some ⟨fb, 0, none⟩) G.length G.length) ∧ w'.cell? ⟨lbx, 0, none⟩ = some (.slice (some ⟨lb, lo, none⟩) (Q2.length + 1) lc) ∧ w'.cell? ⟨lb, lo, none⟩ = some (.int .i64 (t : Int)) ∧ w'.cell? ⟨fb, t, none⟩ = some (.int .i64 (d : Int))) (by kernel_rfl) (by kernel_rfl) ?_
                  have hS : (fun w' : World => w'.cell? ⟨fbx, 0, none⟩ = some (.slice (some ⟨fb, 0, none⟩) G.length G.length) ∧ w'.cell? ⟨lbx, 0, none⟩ = some (.slice (some ⟨lb, lo, none⟩) (Q2.length + 1) lc) ∧ w'.cell? ⟨lb, lo, none⟩ = some (.int .i64 (t : Int)) ∧ w'.cell? ⟨fb, t, none⟩ = some (.int .i64 (d : Int))) W8.drew := ⟨q8, q10, qx, qt⟩
                  have HK1 := Lib.hid HK0.out.drew
                  have q1 : W8.drew.cell? ⟨fb, k, none⟩ = some (.int .i64 fv) := q1
                  have qf1 : W8.drew.frozen? ⟨fb, k, none⟩ = false := qf1
                  generalize W8.drew = W9 at *
                  clear q8 q10 qx qt
                  refine wpAnyS_take (i := 0) (v := ?_) rfl (by kernel_rfl) (fun _ _ _ h => h) (by rfl) hS ?_ ?_
                  rotate_left
                  · intro w' hS'
                    (try dsimp only at hS')
                    go_simp <;> with_reducible rfl
                  try simp only [Act.put, List.setIfInBounds_toArray, List.set_cons_zero, List.set_cons_succ]
                  refine wpAnyS_take (i := 1) (v := ?_) rfl (by kernel_rfl) (fun _ _ _ h => h) (by rfl) hS ?_ ?_
                  rotate_left
                  · intro w' hS'
                    (try dsimp only at hS')
                    go_simp <;> with_reducible rfl
                  try simp only [Act.put, List.setIfInBounds_toArray, List.set_cons_zero, List.set_cons_succ]
                  refine wpAnyS_take (i := 2) (v := ?_) rfl (by kernel_rfl) (fun _ _ _ h => h) (by rfl) hS ?_ ?_
                  rotate_left
                  · intro w' hS'
                    (try dsimp only at hS')
                    go_simp <;> with_reducible rfl
                  try simp only [Act.put, List.setIfInBounds_toArray, List.set_cons_zero, List.set_cons_succ]
                  refine wpAnyS_take (i := 3) (v := ?_) rfl (by kernel_rfl) (fun _ _ _ h => h) (by rfl) hS ?_ ?_
                  rotate_left
                  · intro w' hS'
                    (try dsimp only at hS')
                    go_simp <;> with_reducible rfl
                  try simp only [Act.put, List.setIfInBounds_toArray, List.set_cons_zero, List.set_cons_succ]
                  refine wpAnyS_take (i := 4) (v := ?_) rfl (by kernel_rfl) (fun _ _ _ h => h) (by rfl) hS ?_ ?_
                  rotate_left
                  · intro w' hS'
                    (try dsimp only at hS')
                    go_simp <;> with_reducible rfl
                  try simp only [Act.put, List.setIfInBounds_toArray, List.set_cons_zero, List.set_cons_succ]
                  refine wpAnyS_take (i := 5) (v := ?_) rfl (by kernel_rfl) (fun _ _ _ h => h) (by rfl) hS ?_ ?_
                  rotate_left
                  · intro w' hS'
                    (try dsimp only at hS')
                    go_simp <;> with_reducible rfl
                  try simp only [Act.put, List.setIfInBounds_toArray, List.set_cons_zero, List.set_cons_succ]
                  refine wpAnyS_take (i := 6) (v := ?_) rfl (by kernel_rfl) (fun _ _ _ h => h) (by rfl) hS ?_ ?_
                  rotate_left
                  · intro w' hS'
                    (try dsimp only at hS')
                    go_simp <;> with_reducible rfl
                  try simp only [Act.put, List.setIfInBounds_toArray, List.set_cons_zero, List.set_cons_succ]
                  refine wpAnyS_take (i := 7) (v := ?_) rfl (by kernel_rfl) (fun _ _ _ h => h) (by rfl) hS ?_ ?_
                  rotate_left
                  · intro w' hS'
                    (try dsimp only at hS')
                    go_simp <;> with_reducible rfl
                  try simp only [Act.put, List.setIfInBounds_toArray, List.set_cons_zero, List.set_cons_succ]
                  refine wpAnyS_take (i := 8) (v := ?_) rfl (by kernel_rfl) (fun _ _ _ h => h) (by rfl) hS ?_ ?_
                  rotate_left
                  · intro w' hS'
                    (try dsimp only at hS')
                    go_simp <;> with_reducible rfl
                  try simp only [Act.put, List.setIfInBounds_toArray, List.set_cons_zero, List.set_cons_succ]
                  refine wpAnyS_take (i := 9) (v := ?_) rfl (by kernel_rfl) (fun _ _ _ h => h) (by rfl) hS ?_ ?_
                  rotate_left
                  · intro w' hS'
                    (try dsimp only at hS')
                    go_simp <;> with_reducible rfl
                  try simp only [Act.put, List.setIfInBounds_toArray, List.set_cons_zero, List.set_cons_succ]
                  refine wpAnyS_last (i := 10) rfl (by kernel_rfl) (by decide) (by kernel_rfl) (by rfl) fun K hK => ?_
                  go_simp
                  refine hK.out _ _ ?_
                  clear hK K hS
                  have ew : IntKind.i64.wrap ((d : Int) + 1) = (d : Int) + 1 := by rw [IntKind.wrap_i64]; omega
                  simp only [ew]
                  clear ew
                  have HK2 := Lib.hid (HK1.out.storedI 3 rfl k ((d : Int) + 1))
                  generalize W9.setCell ⟨fb, k, none⟩ (.int .i64 (↑d + 1)) = W10 at *
                  rw [← HD.out] at HK2
                  have HJ : Hid ((∀ y : Int, y ∈ pre ∨ y = (k : Int) → 0 ≤ (F2.set k (F2.getD t 0 + 1)).getD y.toNat 0) ∧ (Q2.length + 1 + 1) + es.length ≤ ds.length + setc (F2.set k (F2.getD t 0 + 1))) := by
                    have hkl : k < F2.length := by rw [HQ2.out.len]; exact hk
                    refine Lib.hid ⟨fun y hy => ?_, ?_⟩
                    · rw [getD_set hkl, HD.out]
                      rcases hy with hy | rfl
                      · have := hpre y hy
                        split <;> omega
                      · rw [Int.toNat_natCast, if_pos rfl]; omega
                    · rw [setc_set hkl hneg (by rw [HD.out]; omega)]
                      simp only [List.length_cons] at hcnt2
                      omega
                  have q10 := (HK2.out.1.bk 6 rfl).cell 0
                  have qf10 := (HK2.out.1.bk 6 rfl).free 0
                  have HK3 := Lib.hid (HK2.out.newBk 3 #[.int .i64 (k : Int)])
                  dsimp only [OnlyEnd]
                  clear q1 qf1 hpre hcnt2 hneg2
                  gi_wp2_with (gi_at_builtin; refine wpListIn_oper rfl (by intro c h; cases h) fun K hK => ?_; refine wp_qapp _ _ rfl HK3.out rfl rfl 5 rfl 8 rfl (by have := HQ2.out.qlen; simp only [List.length_cons] at this ⊢; omega) ?_; intro b5 o5 c5 W11 hk4; have HK5 := Lib.hid hk4; have HK6 := Lib.hid (hk4.stored 6 rfl 0 (.slice (some ⟨b5, o5, none⟩) (Q2.length + 1 + 1) c5)); have q11 := (hk4.1.bk 6 rfl).cell 0; have qf11 := (hk4.1.bk 6 rfl).free 0; refine hK.out _ _ ?_; clear hK hk4; simp only [List.length_cons])
                  refine ⟨⟨_, _, _⟩, HK6.out.take 8, HP.out, ⟨_, rfl⟩, HJ.out.1, ?_⟩
                  have := HJ.out.2
                  simp only [List.length_append, List.length_cons, List.length_nil]
                  omega
                · have h0 : 0 ≤ F2.getD k 0 := by omega
                  have h1 := h0
                  generalize hfv : F2.getD k 0 = fv at q1 h1
                  clear hfv
                  gi_wp2
                  exact ⟨⟨_, _, F2⟩, HK0.out, HQ2.out, ⟨_, rfl⟩, (fun y hy => by
                    have hy : y ∈ pre ∨ y = (k : Int) := by simpa using hy
                    rcases hy with hy | rfl
                    · exact hpre y hy
                    · exact h0), hcnt2⟩
              case done =>
                rintro D W8 ⟨lv2, Q2, F2⟩ hL8 ⟨hq2, ⟨Q2, rfl⟩, hpre, hcnt2⟩
                dsimp only at hL8 hq2 hpre hcnt2
                have HL8 := Lib.hid hL8
                have HQ2 := Lib.hid (hq2.pop fun p hp hs => by have := hpre _ (HED.out p hp hs); simpa using this)
                have HQT := hL8.queue 5 rfl
                obtain ⟨b2, off2, cap2, rfl, -, hcap2⟩ := HQT.head
                have HQ3 := Lib.hid HQT.tail
                have q10 := (hL8.bk 6 rfl).cell 0
                have hset : setc F2 ≤ G.length := by rw [← hq2.len]; exact setc_le F2
                simp only [List.length_cons] at hcnt2
                clear HQT hq2 hpre hL8
                have HN : Hid (∀ v', QAt W8 v' Q2 → v'.ownBlock = some b2 → Lies w (W8.alloc (.cells #[v'] 27)) (marksT (D :: es) :: far3L (.slice (some ⟨gb, 0, none⟩) G.length G.length) (backP G G.length) bbx fb G.length fbx W8.heap.size v' Q2 F2)) := fun v' h1 h3 =>
                  (((HL8.out.quTo 5 rfl h1 (by rw [h3]; rfl)).newBk 27 #[v']).pull 6 8 _ (by decide) rfl).take 7
                by_cases hc1 : cap2 = 1
                · subst hc1
                  have hql : Q2.length = 0 := by omega
                  have hR := HQ3.out
                  rw [if_pos rfl] at hR
                  have HR := Lib.hid (HN.out _ hR rfl)
                  clear hR hcap2
                  rw [hql] at q10
                  simp only [Nat.zero_add] at q10
                  gi_wp2
                  exact ⟨Far3.mk ⟨_, _, _, _, D :: es, useU rfl ⟨HQ2.out, by simp only [List.length_cons]; omega, HR.out⟩⟩, by have := es.length; simp; omega⟩
                · have hR := HQ3.out
                  rw [if_neg hc1] at hR
                  have HR := Lib.hid (HN.out _ hR rfl)
                  clear hR
                  gi_wp2
                  exact ⟨Far3.mk ⟨_, _, _, _, D :: es, useU rfl ⟨HQ2.out, by simp only [List.length_cons]; omega, HR.out⟩⟩, by have := es.length; simp; omega⟩
end Go.Proofs.Ytkeiphmhckkniaa
