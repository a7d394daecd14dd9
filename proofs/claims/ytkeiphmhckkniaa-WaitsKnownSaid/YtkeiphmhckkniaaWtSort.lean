/-
  Walk of waits.Sorted.
  No condition but sizes.
-/
import Derived.Test.YtkeiphmhckkniaaWtSortP
import Derived.Test.YtkeiphmhckkniaaWtHeap2
import Derived.Test.YtkeiphmhckkniaaWtFar
import Derived.Test.YtkeiphmhckkniaaWtRingP
namespace Go.Proofs.Ytkeiphmhckkniaa
open Go Go.RowKit Go.Shelf

def sortedP (G : List (List Int)) : List Nat := if okP G [] then orderP G [] else []
/-- What Sorted gives. -/
def SortedRet (G : List (List Int)) (w : World) (e : Ending) (w' : World) : Prop :=
  ∃ a cap, e = .returned (.tuple #[.slice a (sortedP G).length cap, .bool (okP G [])]) ∧ OwnInts w' 3 (.slice a (sortedP G).length cap) (ints (sortedP G)) ∧ NewFrom w.heap.size (.slice a (sortedP G).length cap) ∧ Fr w w' Nil
theorem Lies.made {w0 W W' : World} {l : List Thing} {n : Nat} (h : Lies w0 W l) (ho : W'.ownsRow 0 3 1 (.slice (some ⟨W.heap.size, 0, none⟩) n n) n (madeCells (Value.int .i64 0).cells (n * 1)).toList) (hg : W.grownBy W' none) : Lies w0 W' (l ++ [owT (.slice (some ⟨W.heap.size, 0, none⟩) n n) (List.replicate n 0)]) := by
  have e : (madeCells (Value.int .i64 0).cells (n * 1)).toList = List.replicate n (Value.int .i64 0) := by
    rw [Nat.mul_one]; exact toList_madeCells_one _ _
  rw [e] at ho
  refine h.add (owT _ (List.replicate n (0 : Int))) (S := fun k => k = W.heap.size) ⟨?_, fun k => ⟨fun e => by rw [e]; rfl, fun e => by cases e; rfl⟩⟩ (fun k hk => by omega) ((Fr.refl W Nil).grown hg (fun k hk => by cases hk))
  unfold OwnInts
  rw [List.map_replicate, List.length_replicate]
  exact ho
/-- A heap is laid. -/
theorem Lies.heap {w0 W : World} {l : List Thing} (h : Lies w0 W l) : Lies w0 (W.alloc (.cells #[.slice none 0 0] 47)) (l ++ [hpT W.heap.size []]) :=
  h.add (hpT W.heap.size []) (S := fun k => k = W.heap.size) ⟨_, Bk.new W _ _, World.ownsRow_nil _ _ _ _, (by simp [Value.ownBlock]), fun k => ⟨.inl, fun e => e.elim id fun e => by cases e⟩⟩ (fun k hk => by omega) ((Fr.refl W Nil).alloc _)
theorem heap_min {H : List Int} (h : HeapN H H.length) : ∀ y ∈ H, H.getD 0 0 ≤ y := fun y hy => by
  obtain ⟨k, hk, rfl⟩ := List.mem_iff_getElem.1 hy
  have := h.min k hk
  rw [List.getD_eq_getElem?_getD (i := k), List.getElem?_eq_getElem hk] at this
  exact this
/-- A call on the heap. -/
theorem Lies.hp {w0 W : World} {l : List Thing} {rb : Nat} {H : List Int} (h : Lies w0 W l) (i : Nat) (hi : l[i]? = some (hpT rb H)) : ∃ S, (hpT rb H).At W S ∧ ∀ (R : Ending → List Int → Prop) (e : Ending) (W' : World), HpRet rb R S W e W' → ∃ H', R e H' ∧ Lies w0 W' (l.set i (hpT rb H')) := by
  obtain ⟨S, h1, _, h2⟩ := h.get i _ hi
  refine ⟨S, h1, fun R e W' hr => ?_⟩
  obtain ⟨H', S', k1, k2, k3, k4⟩ := hr
  exact ⟨H', k4, h2 W' S' _ k1 k2 k3⟩
theorem LK.hp {w0 W0 W : World} {B : Nat} {l : List Thing} {rb : Nat} {H : List Int} (h : LK w0 B W0 W l) (i : Nat) (hi : l[i]? = some (hpT rb H)) : ∃ S, (hpT rb H).At W S ∧ ∀ (R : Ending → List Int → Prop) (e : Ending) (W' : World), HpRet rb R S W e W' → ∃ H', R e H' ∧ LK w0 B W0 W' (l.set i (hpT rb H')) := by
  obtain ⟨S, h1, _, h2⟩ := h.get i _ hi (cells_hp _ _)
  refine ⟨S, h1, fun R e W' hr => ?_⟩
  obtain ⟨H', S', k1, k2, k3, k4⟩ := hr
  exact ⟨H', k4, h2 W' S' _ k1 k2 k3⟩
theorem Lies.hpBox {w0 W : World} {l : List Thing} {rb : Nat} {H : List Int} (h : Lies w0 W l) (i : Nat) (hi : l[i]? = some (hpT rb H)) : ∃ a c, W.cell? ⟨rb, 0, none⟩ = some (.slice a H.length c) := by
  obtain ⟨S, ⟨v, h1, h2, _⟩, _⟩ := h.get i _ hi
  obtain ⟨a, c, rfl⟩ := h2.shape
  exact ⟨a, c, h1.cell 0⟩
attribute [local go_sem] Oper.semAt_some asInt mkInt mkRdy
def sl1 (lb n lbx : Nat) (L : List Int) : List Thing := [owT (.slice (some ⟨lb, 0, none⟩) n n) L, bkT lbx 27 [.slice (some ⟨lb, 0, none⟩) n n]]
def Srt1 (G : List (List Int)) (ga : Option Addr) (gcap lb lbx : Nat) (w : World) (a : Act) (W : World) : Prop := ∃ (m : Nat) (ds : List Nat) (u : Nat → Value), a = { tmps := #[.slice ga G.length gcap, u 1, .slice none 0 0, .bool false, .pointer (some ⟨lbx, 0, none⟩), u 5, u 6, u 7, u 8, u 9, u 10, u 11, u 12, u 13, u 14, u 15, u 16, .int .i64 (G.length : Int), .int .i64 (m : Int), u 19, u 20, u 21, u 22, u 23, u 24, u 25, u 26, u 27, u 28, u 29, u 30, u 31, u 32, u 33, u 34, u 35, u 36, u 37, u 38, u 39, u 40, u 41, u 42, u 43, u 44, u 45, u 46, u 47, u 48, u 49, u 50, u 51, u 52, u 53, u 54, u 55, u 56, u 57, u 58, u 59, u 60, u 61, u 62, u 63, u 64, u 65, u 66, u 67, u 68, u 69, u 70, u 71, u 72, u 73, u 74, u 75, u 76, u 77, u 78, u 79, u 80, u 81, u 82, u 83, u 84, u 85, u 86, u 87, u 88], defers := ds.map markD } ∧ m ≤ G.length ∧ Lies w W (marksT ds :: sl1 lb G.length lbx (leftGo G m))
theorem Srt1.mk {G : List (List Int)} {ga : Option Addr} {gcap lb lbx : Nat} {w : World} {a : Act} {W : World} (h : ∃ (m : Nat) (ds : List Nat) (u : Nat → Value), a = { tmps := #[.slice ga G.length gcap, u 1, .slice none 0 0, .bool false, .pointer (some ⟨lbx, 0, none⟩), u 5, u 6, u 7, u 8, u 9, u 10, u 11, u 12, u 13, u 14, u 15, u 16, .int .i64 (G.length : Int), .int .i64 (m : Int), u 19, u 20, u 21, u 22, u 23, u 24, u 25, u 26, u 27, u 28, u 29, u 30, u 31, u 32, u 33, u 34, u 35, u 36, u 37, u 38, u 39, u 40, u 41, u 42, u 43, u 44, u 45, u 46, u 47, u 48, u 49, u 50, u 51, u 52, u 53, u 54, u 55, u 56, u 57, u 58, u 59, u 60, u 61, u 62, u 63, u 64, u 65, u 66, u 67, u 68, u 69, u 70, u 71, u 72, u 73, u 74, u 75, u 76, u 77, u 78, u 79, u 80, u 81, u 82, u 83, u 84, u 85, u 86, u 87, u 88], defers := ds.map markD } ∧ m ≤ G.length ∧ Lies w W (marksT ds :: sl1 lb G.length lbx (leftGo G m))) : Srt1 G ga gcap lb lbx w a W := h
def sl2 (lb n lbx : Nat) (L : List Int) (rb rbx : Nat) (H : List Int) : List Thing := [owT (.slice (some ⟨lb, 0, none⟩) n n) L, bkT lbx 27 [.slice (some ⟨lb, 0, none⟩) n n], hpT rb H, bkT rbx 44 [rdyP rb]]
def Srt2 (G : List (List Int)) (ga : Option Addr) (gcap lb lbx rb rbx : Nat) (ds : List Nat) (w : World) (a : Act) (W : World) : Prop := ∃ (m : Nat) (H : List Int) (u : Nat → Value), a = { tmps := #[.slice ga G.length gcap, u 1, .slice none 0 0, .bool false, .pointer (some ⟨lbx, 0, none⟩), u 5, u 6, .pointer (some ⟨rbx, 0, none⟩), u 8, u 9, u 10, u 11, u 12, u 13, u 14, u 15, u 16, u 17, u 18, u 19, u 20, u 21, u 22, u 23, u 24, u 25, u 26, u 27, u 28, u 29, u 30, u 31, u 32, u 33, .slice (some ⟨lb, 0, none⟩) G.length G.length, .int .i64 (G.length : Int), .int .i64 (m : Int), u 37, u 38, u 39, u 40, u 41, u 42, u 43, u 44, u 45, u 46, u 47, u 48, u 49, u 50, u 51, u 52, u 53, u 54, u 55, u 56, u 57, u 58, u 59, u 60, u 61, u 62, u 63, u 64, u 65, u 66, u 67, u 68, u 69, u 70, u 71, u 72, u 73, u 74, u 75, u 76, u 77, u 78, u 79, u 80, u 81, u 82, u 83, u 84, u 85, u 86, u 87, u 88], defers := ds.map markD } ∧ m ≤ G.length ∧ SB (leftGo G G.length) m H ∧ HeapN H H.length ∧ Lies w W (marksT ds :: sl2 lb G.length lbx (leftGo G G.length) rb rbx H)
theorem Srt2.mk {G : List (List Int)} {ga : Option Addr} {gcap lb lbx rb rbx : Nat} {ds : List Nat} {w : World} {a : Act} {W : World} (h : ∃ (m : Nat) (H : List Int) (u : Nat → Value), a = { tmps := #[.slice ga G.length gcap, u 1, .slice none 0 0, .bool false, .pointer (some ⟨lbx, 0, none⟩), u 5, u 6, .pointer (some ⟨rbx, 0, none⟩), u 8, u 9, u 10, u 11, u 12, u 13, u 14, u 15, u 16, u 17, u 18, u 19, u 20, u 21, u 22, u 23, u 24, u 25, u 26, u 27, u 28, u 29, u 30, u 31, u 32, u 33, .slice (some ⟨lb, 0, none⟩) G.length G.length, .int .i64 (G.length : Int), .int .i64 (m : Int), u 37, u 38, u 39, u 40, u 41, u 42, u 43, u 44, u 45, u 46, u 47, u 48, u 49, u 50, u 51, u 52, u 53, u 54, u 55, u 56, u 57, u 58, u 59, u 60, u 61, u 62, u 63, u 64, u 65, u 66, u 67, u 68, u 69, u 70, u 71, u 72, u 73, u 74, u 75, u 76, u 77, u 78, u 79, u 80, u 81, u 82, u 83, u 84, u 85, u 86, u 87, u 88], defers := ds.map markD } ∧ m ≤ G.length ∧ SB (leftGo G G.length) m H ∧ HeapN H H.length ∧ Lies w W (marksT ds :: sl2 lb G.length lbx (leftGo G G.length) rb rbx H)) : Srt2 G ga gcap lb lbx rb rbx ds w a W := h
def sl3 (lb n lbx : Nat) (L : List Int) (rb rbx : Nat) (H : List Int) (ov : Value) (out : List Nat) : List Thing := [owT (.slice (some ⟨lb, 0, none⟩) n n) L, bkT lbx 27 [.slice (some ⟨lb, 0, none⟩) n n], hpT rb H, bkT rbx 44 [rdyP rb], owT ov (ints out)]
def Srt3 (G : List (List Int)) (ga : Option Addr) (gcap lb lbx rb rbx d0 : Nat) (w : World) (a : Act) (W : World) : Prop := ∃ (out : List Nat) (H L : List Int) (ov : Value) (es : List Nat) (u : Nat → Value), a = { tmps := #[.slice ga G.length gcap, u 1, .slice none 0 0, .bool false, .pointer (some ⟨lbx, 0, none⟩), u 5, u 6, .pointer (some ⟨rbx, 0, none⟩), u 8, u 9, ov, u 11, u 12, u 13, u 14, u 15, u 16, u 17, u 18, u 19, u 20, u 21, u 22, u 23, u 24, u 25, u 26, u 27, u 28, u 29, u 30, u 31, u 32, u 33, u 34, u 35, u 36, u 37, u 38, u 39, u 40, u 41, u 42, u 43, u 44, u 45, u 46, u 47, u 48, u 49, u 50, u 51, u 52, u 53, u 54, u 55, u 56, u 57, u 58, u 59, u 60, u 61, u 62, u 63, u 64, u 65, u 66, u 67, u 68, u 69, u 70, u 71, u 72, u 73, u 74, u 75, u 76, u 77, u 78, u 79, u 80, u 81, u 82, u 83, u 84, u 85, u 86, u 87, u 88], defers := es.map markD } ∧ SQ G out H L ∧ HeapN H H.length ∧ es.length = d0 + out.length ∧ Lies w W (marksT es :: sl3 lb G.length lbx L rb rbx H ov out)
theorem Srt3.mk {G : List (List Int)} {ga : Option Addr} {gcap lb lbx rb rbx d0 : Nat} {w : World} {a : Act} {W : World} (h : ∃ (out : List Nat) (H L : List Int) (ov : Value) (es : List Nat) (u : Nat → Value), a = { tmps := #[.slice ga G.length gcap, u 1, .slice none 0 0, .bool false, .pointer (some ⟨lbx, 0, none⟩), u 5, u 6, .pointer (some ⟨rbx, 0, none⟩), u 8, u 9, ov, u 11, u 12, u 13, u 14, u 15, u 16, u 17, u 18, u 19, u 20, u 21, u 22, u 23, u 24, u 25, u 26, u 27, u 28, u 29, u 30, u 31, u 32, u 33, u 34, u 35, u 36, u 37, u 38, u 39, u 40, u 41, u 42, u 43, u 44, u 45, u 46, u 47, u 48, u 49, u 50, u 51, u 52, u 53, u 54, u 55, u 56, u 57, u 58, u 59, u 60, u 61, u 62, u 63, u 64, u 65, u 66, u 67, u 68, u 69, u 70, u 71, u 72, u 73, u 74, u 75, u 76, u 77, u 78, u 79, u 80, u 81, u 82, u 83, u 84, u 85, u 86, u 87, u 88], defers := es.map markD } ∧ SQ G out H L ∧ HeapN H H.length ∧ es.length = d0 + out.length ∧ Lies w W (marksT es :: sl3 lb G.length lbx L rb rbx H ov out)) : Srt3 G ga gcap lb lbx rb rbx d0 w a W := h
structure SE where
  H : List Int
  L : List Int
/-- Counts between bounds. -/
def Within (n : Nat) (L : List Int) (b : Nat) : Prop := L.length = n ∧ ∀ k, k < n → -(b : Int) ≤ L.getD k 0 ∧ L.getD k 0 ≤ b
theorem Within.set {n b k : Nat} {L : List Int} {x : Int} (h : Within n L b) (hk : k < n) (hx : -((b + 1 : Nat) : Int) ≤ x ∧ x ≤ ((b + 1 : Nat) : Int)) : Within n (L.set k x) (b + 1) := ⟨by rw [List.length_set]; exact h.1, fun j hj => by
  rw [getD_set (by rw [h.1]; exact hk)]
  have := h.2 j hj
  split <;> omega⟩
theorem few_of {H : List Int} {n : Nat} (h : H.Nodup) (h0 : ∀ y ∈ H, ∃ k : Nat, y = (k : Int) ∧ k < n) : H.length ≤ n := by
  have h1 : (H.map Int.toNat).Nodup := by
    unfold List.Nodup
    rw [List.pairwise_map]
    refine h.imp_of_mem fun {a b} ha hb hne e => hne ?_
    obtain ⟨k, rfl, _⟩ := h0 a ha
    obtain ⟨k2, rfl, _⟩ := h0 b hb
    simp at e; omega
  have := sub_len h1 (m := List.range n) fun x hx => by
    obtain ⟨a, ha, rfl⟩ := List.mem_map.1 hx
    obtain ⟨k, rfl, hk⟩ := h0 a ha
    exact List.mem_range.2 (by omega)
  simpa using this
theorem SQ.few {G : List (List Int)} {out : List Nat} {H L : List Int} (h : SQ G out H L) : H.length ≤ G.length := few_of h.nodup fun y hy => by
  obtain ⟨k, rfl, hk⟩ := (h.mem y).1 hy
  exact ⟨k, rfl, (mem_nextO.1 hk).1⟩
theorem SQ.within {G : List (List Int)} {out : List Nat} {H L : List Int} (h : SQ G out H L) : Within G.length L (G.length + ([] : List Int).length) := ⟨h.len, fun k hk => by
  have h1 : leftP G out k ≤ G.length := by
    unfold leftP
    have := List.length_filter_le (fun i => !out.contains i && sees G i k) (List.range G.length)
    rwa [List.length_range] at this
  rw [h.left k hk]
  simp only [List.length_nil]
  omega⟩
set_option maxRecDepth 100000 in
set_option maxHeartbeats 4000000 in
theorem sorted_any (gv : Value) (G : List (List Int)) (w : World) (h : GraphAt w gv G) (hl : G.length ≤ 1000) :
    Calls Try.prog 13 #[gv] w (SortedRet G w) := by
  obtain ⟨ii, hii, hi0, hi1, hi2⟩ := info_parts (P := Try.prog) (e := 3) (z := .int .i64 0) (size := 1) (bytes := 8) (by kernel_rfl)
  obtain ⟨ga, gcap, rfl⟩ := h.shape
  have HG := Lib.hid h
  have Hb2 : Hid (G.length ≤ maxLen) := by
    have : G.length ≤ maxLen := by unfold maxLen; omega
    exact this
  obtain ⟨w1, hrun, hown, hgr⟩ := run_make_full (P := Try.prog) w 0 27 3 ii (.int .i64 0) 1 Try.underlying27 hii hi0 hi1 .i64 .i64 G.length (by rw [hi2]; omega) Hb2.out (Nat.zero_le _)
  have HL0 := Lib.hid (((Lies.begin w).made hown hgr).newBk 27 #[.slice (some ⟨w.heap.size, 0, none⟩) G.length G.length])
  clear h hown hgr
  refine (callsIn_wide (n := 8)).1 ?_
  refine callsIn_of_wp_marks Try.func13 rfl trivial ?_ rfl
  simp only [Try.ntmps13, List.size_toArray, List.length_cons, List.length_nil, Nat.reduceAdd, Nat.reduceSub, Array.replicate_succ, Array.replicate_zero, List.push_toArray, List.append_toArray, List.nil_append, List.cons_append]
  gi_wp2
  generalize w.heap.size = lb at HL0 ⊢
  obtain ⟨lbx, hlbx⟩ : ∃ b, w1.heap.size = b := ⟨_, rfl⟩
  rw [hlbx] at HL0 ⊢
  clear hlbx hrun
  refine wpIn_loop (Srt1 G ga gcap lb lbx w) (fun a W => G.length - (intOf (a.tmps.getD 18 undef)).toNat) ?start ?round
  case start => exact Srt1.mk ⟨0, [], useU rfl ⟨by omega, HL0.out⟩⟩
  case round =>
    rintro a W ⟨m, ds, u, rfl, hmn, hL⟩
    have HL := Lib.hid hL
    clear hL HL0
    by_cases hlt : m < G.length
    · have hml : (m : Int) < (G.length : Int) := by omega
      gi_wp2
      refine ⟨trivial, ?_⟩
      refine (callsIn_wide.2 (of_any _ G m _ (HG.out.fr0 HL.out.fr) hlt)).mono ?_
      rintro e W1 hr
      obtain ⟨Bs, av, ac, rfl, hL1⟩ := HL.out.of hr
      have HL1 := Lib.hid hL1
      clear hr hL1
      gi_wp2
      have hES := ofP_few G m
      have HW : Hid (Within G.length (leftGo G m) m) := by
        refine Lib.hid ⟨leftGo_len G m, fun k hk => ?_⟩
        rw [leftGo_getD hk]
        have := List.length_filter_le (fun i => sees G i k) (List.range m)
        rw [List.length_range] at this
        omega
      refine wpIn_range_of 6 (by decide) (Bs := Bs) (cap := ac) (av := av) (es := ofP G m) rfl (by omega)
        (E := List Int) (fun e => sl1 lb G.length lbx e)
        (fun pre e => e = rowI 1 pre (leftGo G m) ∧ Within G.length e (m + pre.length)) ds ?cells ⟨leftGo G m, HL1.out, rfl, HW.out⟩ ?assign ?body ?done
      case cells =>
        intro e y hy
        simp only [sl1, List.mem_cons, List.not_mem_nil, or_false] at hy
        rcases hy with rfl | rfl
        all_goals first | exact cells_ow _ _ | exact cells_bk _ _ _
      case assign =>
        intro l x W K hK
        gi_wp2
        exact hK
      case body =>
        rintro l pre x W2 L hx hlt2 hL2 ⟨he, hwt⟩
        obtain ⟨k, rfl, hk, hsee⟩ := ofP_nodes hx
        have hkk : (k : Int) < (G.length : Int) := by omega
        have HO2 := hL2.row 1 rfl
        have q1 := HO2.cell hwt.1.symm k (by rw [hwt.1]; exact hk)
        have f1 := HO2.free hwt.1.symm k
        have q4 := (hL2.bk 2 rfl).cell 0
        have HK0 := Lib.hid (LK.start hL2 W1.heap.size)
        have hb := hwt.2 k hk
        have HE := Lib.hid he
        have HWT := Lib.hid hwt
        have HFV : Hid (∀ v, L.getD k 0 = v → L.set k (v + 1) = rowI 1 (pre ++ [(k : Int)]) (leftGo G m)) := fun v hv => by
          rw [rowI_snoc, ← HE.out, ← hv]
          unfold incI
          rw [Int.toNat_natCast]
        have HFV2 := Lib.hid (HFV.out _ rfl)
        clear hL2 he hwt HFV HO2
        dsimp only [setX]
        try simp only [List.setIfInBounds_toArray, List.set_cons_zero, List.set_cons_succ]
        have HKV := Lib.hid (HWT.out.set hk (x := L.getD k 0 + 1) (by omega))
        generalize L.getD k 0 = v at *
        gi_wp2
        have h2 := HK0.out.storedI 1 rfl k (v + 1)
        refine ⟨_, h2, HFV2.out, ?_⟩
        have h3 := HKV.out
        simp only [List.length_append, List.length_singleton]
        exact h3
      case done =>
        rintro D W2 e hL2 ⟨rfl, -⟩
        rw [← leftGo_succ] at hL2
        have HL2 := Lib.hid hL2
        clear hL2
        gi_wp2
        exact ⟨Srt1.mk ⟨m + 1, D :: ds, useU rfl ⟨by omega, HL2.out.take 3⟩⟩, by simp [intOf]; omega⟩
    · obtain rfl : m = G.length := by omega
      have HL2 := Lib.hid (HL.out.heap.newBk 44 #[rdyP W.heap.size])
      simp only [World.size_alloc] at HL2
      have q4 := (HL2.out.bk 2 rfl).cell 0
      gi_wp2
      generalize ((W.alloc (.cells #[.slice none 0 0] 47)).alloc (.cells #[rdyP W.heap.size] 44)) = W2 at *
      generalize W.heap.size + 1 = rbx at *
      generalize W.heap.size = rb at *
      refine wpIn_loop (Srt2 G ga gcap lb lbx rb rbx ds w) (fun a W => G.length - (intOf (a.tmps.getD 36 undef)).toNat) ?start2 ?round2
      case start2 => exact Srt2.mk ⟨0, [], useU rfl ⟨by omega, SB.nil _, HeapN.nil, HL2.out⟩⟩
      case round2 =>
        clear HL HL2 q4
        rintro a W3 ⟨m, H, u3, rfl, hmn3, hsb, hh, hL3⟩
        have HL3 := Lib.hid hL3
        have HSB := Lib.hid hsb
        have HH := Lib.hid hh
        clear hL3 hsb hh hmn
        by_cases hlt : m < G.length
        · have hml : (m : Int) < (G.length : Int) := by omega
          have q1 := (HL3.out.row 1 rfl).cell (leftGo_len G G.length).symm m (by rw [leftGo_len]; exact hlt)
          have q7 := (HL3.out.bk 4 rfl).cell 0
          by_cases h0 : (leftGo G G.length).getD m 0 = 0
          · rw [h0] at q1
            have H0 := Lib.hid h0
            obtain ⟨S, hat, hgo⟩ := HL3.out.hp 3 rfl
            have HAT := Lib.hid hat
            have HGO := Lib.hid hgo
            have hhl := HSB.out.len
            clear h0 hat hgo
            gi_wp2
            refine ⟨trivial, ?_⟩
            refine (callsIn_wide.2 (hpush_any rb H (m : Int) W3 S HAT.out HH.out (by omega))).mono ?_
            rintro e W4 hr
            obtain ⟨H', ⟨rfl, hp, hh'⟩, hL4⟩ := HGO.out _ _ _ hr
            have HL4 := Lib.hid hL4
            have HP := Lib.hid (HSB.out.push H0.out hp)
            have HH4 := Lib.hid hh'
            clear hr hp hL4 hh'
            gi_wp2
            exact ⟨Srt2.mk ⟨m + 1, H', useU rfl ⟨by omega, HP.out, HH4.out, HL4.out⟩⟩, by simp [intOf]; omega⟩
          · have HP := Lib.hid (HSB.out.skip h0)
            generalize (leftGo G G.length).getD m 0 = v at q1 h0
            gi_wp2
            exact ⟨Srt2.mk ⟨m + 1, H, useU rfl ⟨by omega, HP.out, HH.out, HL3.out⟩⟩, by simp [intOf]; omega⟩
        · obtain rfl : m = G.length := by omega
          have HL4 := Lib.hid (HL3.out.addRow (v := .slice none 0 0) (xs := ints []) (World.ownsRow_nil _ _ _ _) (fun _ h => by cases h) (Fr.refl _ _))
          gi_wp2
          refine wpIn_loop (Srt3 G ga gcap lb lbx rb rbx ds.length w) (fun a W => ds.length + G.length - a.defers.length) ?start3 ?round3
          case start3 => exact Srt3.mk ⟨[], H, _, _, ds, useU rfl ⟨HSB.out.start, HH.out, rfl, HL4.out⟩⟩
          case round3 =>
            clear HL3 HL4 HSB HH
            rintro a W5 ⟨out, H5, L, ov, es, u5, rfl, hsq, hh5, hes, hL5⟩
            have HL5 := Lib.hid hL5
            have HSQ := Lib.hid hsq
            have HH5 := Lib.hid hh5
            have q7 := (hL5.bk 4 rfl).cell 0
            obtain ⟨ha, hc, qh⟩ := hL5.hpBox 3 rfl
            clear hL5 hsq hh5
            rcases H5 with _ | ⟨y, H5⟩
            · have HST := Lib.hid HSQ.out.stop
              obtain ⟨oa, oc, rfl⟩ := (HL5.out.row 5 rfl).shape
              rw [ints_len] at HL5 ⊢
              simp only [List.length_nil] at qh
              have hol := HSQ.out.okay.len
              have hm := HL5.out.marks 0 rfl
              have HM := Lib.hid hm
              clear hm
              by_cases hfull : out.length < G.length
              · have HZ : Hid (okP G [] = false ∧ sortedP G = []) := by
                  have h1 : okP G [] = false := by unfold okP; rw [HST.out]; exact decide_eq_false (by omega)
                  exact Lib.hid ⟨h1, by unfold sortedP; rw [h1]; rfl⟩
                gi_wp2
                refine ⟨trivial, ?_⟩
                refine (callsIn_wide.2 (islen_any _ _ _ _)).mono ?_
                rintro e W6 ⟨rfl, rfl⟩
                gi_wp2
                refine leaves_marks es W5 HM.out.1 HM.out.2.1 fun W' hf => ?_
                have h3 := HL5.out.leave hf
                unfold SortedRet
                rw [HZ.out.1, HZ.out.2]
                exact ⟨_, results_tmp2 rfl _ _ _, none, 0, rfl, World.ownsRow_nil _ _ _ _, (fun _ h => by cases h), h3.fr⟩
              · have HZ : Hid (okP G [] = true ∧ sortedP G = out) := by
                  have h1 : okP G [] = true := by unfold okP; rw [HST.out]; exact decide_eq_true (by omega)
                  exact Lib.hid ⟨h1, by unfold sortedP; rw [h1, if_pos rfl]; exact HST.out⟩
                gi_wp2
                refine ⟨trivial, ?_⟩
                refine (callsIn_wide.2 (islen_any _ _ _ _)).mono ?_
                rintro e W6 ⟨rfl, rfl⟩
                gi_wp2
                refine leaves_marks es W5 HM.out.1 HM.out.2.1 fun W' hf => ?_
                have h3 := HL5.out.leave hf
                have h4 := h3.row 4 rfl
                have h5 := h3.newFrom 4 rfl
                unfold SortedRet
                rw [HZ.out.1, HZ.out.2]
                exact ⟨_, results_tmp2 rfl _ _ _, oa, oc, rfl, h4, h5, h3.fr⟩
            · obtain ⟨S, hat, hgo⟩ := HL5.out.hp 3 rfl
              have HAT := Lib.hid hat
              have HGO := Lib.hid hgo
              have hfew := HSQ.out.few
              have HFEW := Lib.hid hfew
              have hfew2 : H5.length ≤ 1000 := by simp only [List.length_cons] at hfew; omega
              clear hat hgo hfew
              simp only [List.length_cons] at qh
              gi_wp2
              refine ⟨trivial, ?_⟩
              refine (callsIn_wide.2 (islen_any _ _ _ _)).mono ?_
              rintro e W6 ⟨rfl, rfl⟩
              gi_wp2
              refine ⟨trivial, ?_⟩
              refine (callsIn_wide.2 (hpop_any rb (y :: H5) W5 S HAT.out HH5.out (by simp) (by simp; omega))).mono ?_
              rintro e W6 hr
              obtain ⟨H6, ⟨he, hp, hh6⟩, hL6⟩ := HGO.out _ _ _ hr
              have he : e = .returned (.iface 3 (.int .i64 y)) := he
              obtain ⟨k, hk0, hk, hkn, hol, hgo2, hsi⟩ := HSQ.out.pop hp (heap_min HH5.out)
              obtain rfl : y = (k : Int) := hk0
              subst he
              have HL6 := Lib.hid hL6
              have HH6 := Lib.hid hh6
              have HKN := Lib.hid hkn
              have HGO2 := Lib.hid hgo2
              have HSI := Lib.hid hsi
              have H6L : Hid (H6.length ≤ G.length) := by
                have h1 := hp.length_eq
                have h2 := HFEW.out
                simp only [List.length_cons] at h1 h2
                exact Lib.hid (by omega)
              have hkk : (k : Int) < (G.length : Int) := by omega
              have q7 := (hL6.bk 4 rfl).cell 0
              have HK0 := Lib.hid ((LK.start hL6 0).newBk 3 #[.int .i64 (k : Int)])
              clear hr hp hh6 hL6 hkn hgo2 hsi qh HAT HGO
              gi_wp2_with (gi_at_builtin; refine wpListIn_operW rfl (by intro c h; cases h) fun K hK => ?_; refine wp_oapp _ _ rfl HK0.out rfl rfl 5 rfl 6 rfl (by rw [ints_len]; omega) ?_; intro a5 c5 W7 hk5; have HK5 := Lib.hid hk5; refine hK.out _ _ ?_; clear hK hk5)
              have e5 : ints out ++ [(k : Int)] = ints (out ++ [k]) := by simp [ints]
              rw [e5] at HK5
              have HL7 := Lib.hid (HK5.out.1.take 6)
              clear HK5 HK0 e5 q7
              refine ⟨trivial, ?_⟩
              refine (callsIn_wide.2 (of_any _ G k W7 (HG.out.fr0 HL7.out.fr) hk)).mono ?_
              rintro e W8 hr
              obtain ⟨Bs, av, ac, rfl, hL8⟩ := HL7.out.of hr
              have HL8 := Lib.hid hL8
              clear hr hL8
              gi_wp2
              have hES := ofP_few G k
              refine wpIn_range_of 12 (by decide) (Bs := Bs) (cap := ac) (av := av) (es := ofP G k) rfl (by omega)
                (E := SE) (fun e => sl3 lb G.length lbx e.L rb rbx e.H (.slice a5 ((ints out).length + 1) c5) (out ++ [k]))
                (fun pre e => HeapN e.H e.H.length ∧ Within G.length e.L (G.length + pre.length) ∧ e.H.length ≤ G.length + pre.length ∧ (pre <+: ofP G k → SI G out k pre e.H e.L)) es ?cells ⟨⟨H6, L⟩, HL8.out, HH6.out, HSQ.out.within, H6L.out, fun _ => HSI.out⟩ ?assign ?body ?done
              case cells =>
                intro e y hy
                simp only [sl3, List.mem_cons, List.not_mem_nil, or_false] at hy
                rcases hy with rfl | rfl | rfl | rfl | rfl
                all_goals first | exact cells_ow _ _ | exact cells_bk _ _ _ | exact cells_hp _ _
              case assign =>
                intro l x W K hK
                gi_wp2
                exact hK
              case body =>
                rintro l pre x W9 ⟨H9, L9⟩ hx hlt2 hL9 ⟨hh, hwt, hfew, hsi⟩
                dsimp only at hL9 hh hwt hfew hsi
                obtain ⟨j, rfl, hj, hsee⟩ := ofP_nodes hx
                have hjj : (j : Int) < (G.length : Int) := by omega
                have HO9 := hL9.row 1 rfl
                have q1 := HO9.cell hwt.1.symm j (by rw [hwt.1]; exact hj)
                have f1 := HO9.free hwt.1.symm j
                have q4 := (hL9.bk 2 rfl).cell 0
                have hb := hwt.2 j hj
                have HKV := Lib.hid (hwt.set hj (x := L9.getD j 0 - 1) (by omega))
                have HSTEP : Hid (pre ++ [(j : Int)] <+: ofP G k → ((L9.getD j 0 - 1 ≠ 0 → SI G out k (pre ++ [(j : Int)]) H9 (L9.set j (L9.getD j 0 - 1))) ∧ (L9.getD j 0 - 1 = 0 → ∀ H', H'.Perm ((j : Int) :: H9) → SI G out k (pre ++ [(j : Int)]) H' (L9.set j (L9.getD j 0 - 1))))) := fun hp => by
                  have hp2 : pre <+: ofP G k := (List.prefix_append pre [(j : Int)]).trans hp
                  refine (hsi hp2).step HKN.out hj hsee fun hm => ?_
                  have hnd := hp.sublist.nodup (ofP_nodup G k)
                  rw [List.nodup_append] at hnd
                  exact hnd.2.2 _ hm _ (by simp) rfl
                have HH9 := Lib.hid hh
                have HK1 := Lib.hid ((LK.start hL9 W8.heap.size).storedI 1 rfl j (L9.getD j 0 - 1))
                clear hL9 hwt hsi hh HO9
                dsimp only [setX]
                try simp only [List.setIfInBounds_toArray, List.set_cons_zero, List.set_cons_succ]
                by_cases h1 : L9.getD j 0 = 1
                · have HS1 : Hid (pre ++ [(j : Int)] <+: ofP G k → ∀ H', H'.Perm ((j : Int) :: H9) → SI G out k (pre ++ [(j : Int)]) H' (L9.set j 0)) := fun hp H' hq => by
                    have := (HSTEP.out hp).2 (by omega) H' hq
                    rw [h1] at this
                    exact this
                  rw [h1] at q1 HKV HK1
                  simp only [Int.sub_self] at HKV HK1
                  have q42 := (HK1.out.1.bk 2 rfl).cell 0
                  have q72 := (HK1.out.1.bk 4 rfl).cell 0
                  obtain ⟨S, hat, hgo⟩ := HK1.out.hp 3 rfl
                  have HAT := Lib.hid hat
                  have HGO := Lib.hid hgo
                  clear hat hgo h1 hb HSTEP
                  gi_wp2
                  refine ⟨trivial, ?_⟩
                  refine (CallsIn.inRound l (callsIn_wide.2 (hpush_any rb H9 (j : Int) _ S HAT.out HH9.out (by omega)))).mono ?_
                  rintro e W10 hr
                  obtain ⟨H', ⟨rfl, hp, hh'⟩, hK2⟩ := HGO.out _ _ _ hr
                  have HP := Lib.hid hp
                  have HK2 := Lib.hid hK2
                  have HH10 := Lib.hid hh'
                  clear hr hp hK2 hh'
                  gi_wp2
                  refine ⟨⟨H', L9.set j 0⟩, HK2.out, HH10.out, ?_, ?_, ?_⟩
                  · have := HKV.out
                    simp only [List.length_append, List.length_singleton]
                    exact this
                  · have := HP.out.length_eq
                    simp only [List.length_append, List.length_cons, List.length_nil] at this ⊢
                    omega
                  · exact fun hpx => HS1.out hpx H' HP.out
                · have HS1 : Hid (pre ++ [(j : Int)] <+: ofP G k → SI G out k (pre ++ [(j : Int)]) H9 (L9.set j (L9.getD j 0 - 1))) := fun hp => (HSTEP.out hp).1 (by omega)
                  have q42 := (HK1.out.1.bk 2 rfl).cell 0
                  have h2 : ¬ (L9.getD j 0 - 1 = 0) := by omega
                  clear h1 HSTEP
                  generalize L9.getD j 0 = v at *
                  gi_wp2
                  refine ⟨⟨H9, L9.set j (v - 1)⟩, HK1.out, HH9.out, ?_, ?_, ?_⟩
                  · have := HKV.out
                    simp only [List.length_append, List.length_singleton]
                    exact this
                  · simp only [List.length_append, List.length_singleton]
                    omega
                  · exact HS1.out
              case done =>
                rintro D W9 ⟨H9, L9⟩ hL9 ⟨hh, hwt, hfew, hsi⟩
                dsimp only at hL9 hh hwt hfew hsi
                have HS9 := Lib.hid ((hsi (List.prefix_refl _)).done HSQ.out HKN.out HGO2.out)
                have HH9 := Lib.hid hh
                have HL9 := Lib.hid (hL9.take 6)
                clear hsi hh hL9 hwt hfew
                gi_wp2
                exact ⟨Srt3.mk ⟨out ++ [k], H9, L9, _, D :: es, useU rfl ⟨HS9.out, HH9.out, by simp; omega, HL9.out⟩⟩, by simp; omega⟩
end Go.Proofs.Ytkeiphmhckkniaa
