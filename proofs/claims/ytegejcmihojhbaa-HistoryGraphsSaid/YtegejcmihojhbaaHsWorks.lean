/-
  Walks of row and works: the chapter's examples.
  No condition.
-/
import Derived.Handy
import Derived.Test.YtegejcmihojhbaaHsGraph
import Derived.Test.YtegejcmihojhbaaHsOrder
import Derived.Test.YtegejcmihojhbaaHsSame
import Derived.Test.YtegejcmihojhbaaHsArgs
namespace Go.Proofs.Ytegejcmihojhbaa
open Go Go.RowKit

theorem sl_of_bk {w : World} {b : Nat} {e : TypeId} {cs : List Value} {size n cap : Nat} (h : Bk w b e cs) (hl : cs.length = n * size) : SlAt w size (.slice (some ⟨b, 0, none⟩) n cap) n cs :=
  ⟨hl, .inr ⟨⟨b, 0, none⟩, cap, rfl, fun j u hu => by rw [Addr.add_lit, Nat.zero_add, h.cell, hu]⟩⟩
theorem ints_of_bk {w : World} {b : Nat} {e : TypeId} {xs : List Int} {cap : Nat} (h : Bk w b e (xs.map (Value.int .i64))) : IntsAt w (.slice (some ⟨b, 0, none⟩) xs.length cap) xs :=
  SlAt.ints (sl_of_bk h (by simp))
theorem graph_at {who : List Int} {ts : List TouchD} {w : World} {e : Ending} {w' : World} (hl : who.length ≤ 1000) (h : GraphRet who ts w e w') : ∃ gb, e = .returned (.slice (some ⟨gb, 0, none⟩) who.length who.length) ∧ GraphAt w' (.slice (some ⟨gb, 0, none⟩) who.length who.length) (graphW who ts) ∧ Fr w w' Nil := by
  obtain ⟨gb, vs, rfl, _, h1, h2, h3⟩ := h
  have hgl : (graphW who ts).length = who.length := by simp [graphW]
  refine ⟨gb, rfl, ⟨vs, ?_, fun i xs hi => ?_⟩, h3⟩
  · rw [hgl]; exact (SlAt.of_own h1).1
  · obtain ⟨u, hu, hx, _⟩ := h2.2.1 i xs hi
    refine ⟨u, hu, hx.at, ?_⟩
    obtain ⟨x, hx2, rfl⟩ := List.mem_map.1 (List.mem_of_getElem? hi)
    rw [ints_len]
    exact Nat.le_trans (List.length_filter_le _ _) (by simp; omega)

theorem graph_call {wv tv : Value} {who : List Int} {ts : List TouchD} {w : World} (hw : IntsAt w wv who) (hwl : who.length ≤ 1000) (hwn : who.Nodup) (hwf : ∀ x ∈ who, (Lit.int .i64 x).wf = true) (ht : TouchesAt w tv ts) (hc : CapOk tv) (htl : ts.length ≤ 1000) :
    Calls Try.prog 8 #[wv, tv] w fun e w' => ∃ gb, e = .returned (.slice (some ⟨gb, 0, none⟩) who.length who.length) ∧ GraphAt w' (.slice (some ⟨gb, 0, none⟩) who.length who.length) (graphW who ts) ∧ Fr w w' Nil := by
  obtain ⟨a, cap, rfl⟩ := SlAt.shape ht
  exact (graph_in wv a cap who ts w hw hwl hwn hwf ht htl (hc _ _ _ rfl)).mono fun e w' h => graph_at hwl h
theorem row_any (k : Int) (w : World) : Calls Try.prog 27 #[.int .i64 k] w fun e w' => e = .returned (.agg #[.int .i64 0, .bool true, .int .i64 k]) ∧ Fr w w' Nil := by
  go_enter Try.func27, Try.ntmps27
  go_wp2_with fail
  go_returns
  exact ⟨rfl, (Fr.refl w Nil).alloc _⟩

def wT1 : List TouchD := [⟨1, 0, true, 5, false, by decide⟩, ⟨2, 0, true, 5, true, by decide⟩, ⟨2, 0, true, 6, false, by decide⟩, ⟨1, 0, true, 6, true, by decide⟩]
def wT2 : List TouchD := [⟨1, 0, false, 0, false, by decide⟩, ⟨2, 0, true, 5, true, by decide⟩]
theorem wG1 : graphW [1, 2] wT1 = [[1], [0]] := by decide +kernel
theorem wG2 : graphW [1, 2] wT2 = [[1], []] := by decide +kernel
theorem wO1 : okP [[1], [0]] [] = false := by decide +kernel
theorem wO2 : okP [[1], []] [] = true := by decide +kernel
theorem wO3 : ordL [[1], []] [] = [0, 1] := by decide +kernel

set_option maxRecDepth 100000 in
set_option maxHeartbeats 1000000 in
theorem works_any (w : World) : Calls Try.prog 7 #[] w fun e w' => e = .returned (.bool true) ∧ Fr w w' Nil := by
  go_enter Try.func7, Try.ntmps7
  go_wp2_with fail
  refine (row_any 5 _).mono ?_
  rintro e wa ⟨rfl, ha⟩
  go_wp2_with fail
  refine (row_any 5 _).mono ?_
  rintro e wb ⟨rfl, hb⟩
  go_wp2_with fail
  refine (row_any 6 _).mono ?_
  rintro e wc ⟨rfl, hc⟩
  go_wp2_with fail
  refine (row_any 6 _).mono ?_
  rintro e w0 ⟨rfl, hd⟩
  have hf0 := ((ha.trans0 hb).trans0 hc).trans0 hd
  clear ha hb hc hd
  have hb1 := Bk.new w0 46 #[.int .i64 1, .int .i64 0, .bool true, .int .i64 5, .bool false, .int .i64 2, .int .i64 0, .bool true, .int .i64 5, .bool true, .int .i64 2, .int .i64 0, .bool true, .int .i64 6, .bool false, .int .i64 1, .int .i64 0, .bool true, .int .i64 6, .bool true]
  go_wp2_with fail
  have hf1 : Fr w (w0.alloc (.cells #[.int .i64 1, .int .i64 0, .bool true, .int .i64 5, .bool false, .int .i64 2, .int .i64 0, .bool true, .int .i64 5, .bool true, .int .i64 2, .int .i64 0, .bool true, .int .i64 6, .bool false, .int .i64 1, .int .i64 0, .bool true, .int .i64 6, .bool true] 46)) Nil := hf0.alloc _
  have hn1 : (w0.alloc (.cells #[.int .i64 1, .int .i64 0, .bool true, .int .i64 5, .bool false, .int .i64 2, .int .i64 0, .bool true, .int .i64 5, .bool true, .int .i64 2, .int .i64 0, .bool true, .int .i64 6, .bool false, .int .i64 1, .int .i64 0, .bool true, .int .i64 6, .bool true] 46)).heap.size = w0.heap.size + 1 := by simp
  generalize w0.alloc (.cells #[.int .i64 1, .int .i64 0, .bool true, .int .i64 5, .bool false, .int .i64 2, .int .i64 0, .bool true, .int .i64 5, .bool true, .int .i64 2, .int .i64 0, .bool true, .int .i64 6, .bool false, .int .i64 1, .int .i64 0, .bool true, .int .i64 6, .bool true] 46) = w1 at *
  have hc1 := Bk.new w1 2 #[.int .i64 1, .int .i64 2]
  rw [hn1] at hc1
  refine (graph_call (who := [1, 2]) (ts := wT1) (ints_of_bk (xs := [1, 2]) hc1) (by decide) (by decide) (by decide) (sl_of_bk (hb1.alloc _) rfl) (fun a n c e => by cases e; exact Nat.le_refl _) (by decide)).mono ?_
  rintro e w2 ⟨gb, rfl, hg, hf2⟩
  rw [wG1] at hg
  have HF : Hid (Fr w w2 Nil) := (hf1.alloc _).trans0 hf2
  obtain ⟨ub, uoff, ucap, hue, huc⟩ := hg.form (by decide)
  simp only [Value.slice.injEq, Option.some.injEq, Addr.mk.injEq, true_and, and_true, List.length_cons, List.length_nil] at hue
  obtain ⟨⟨rfl, rfl⟩, rfl⟩ := hue
  obtain ⟨u0, hu0, hx0, _⟩ := huc 0 [1] rfl
  obtain ⟨u1, hu1, hx1, _⟩ := huc 1 [0] rfl
  obtain ⟨a0, c0, rfl⟩ := hx0.shape
  obtain ⟨a1, c1, rfl⟩ := hx1.shape
  have HG := Lib.hid hg
  have HU0 := Lib.hid hu0
  have HU1 := Lib.hid hu1
  clear hb1 hc1 hn1 hf1 hf2 hg hf0 huc hx0 hx1 hu0 hu1
  go_wp2_with fail
  refine (order_any _ _ [[1], [0]] [] _ HG.out (.inl ⟨rfl, rfl⟩) (by decide) (by decide)).mono ?_
  rintro e w3 ⟨oa, ocap, rfl, _, _, hf3⟩
  rw [wO1]
  have HF3 := Lib.hid (HF.out.trans0 hf3)
  have HU0 := Lib.hid (hf3.cell HU0.out fun h => h)
  have HU1 := Lib.hid (hf3.cell HU1.out fun h => h)
  generalize (ordL [[1], [0]] []).length = n3
  clear hf3 HF HG
  go_wp2_with fail
  refine (row_any 5 _).mono ?_
  rintro e w4 ⟨rfl, hf4⟩
  have hf4' := ((Fr.refl w3 Nil).alloc _).trans0 hf4
  have HF4 := Lib.hid (HF3.out.trans0 hf4')
  have HU0 := Lib.hid (hf4'.cell HU0.out fun h => h)
  have HU1 := Lib.hid (hf4'.cell HU1.out fun h => h)
  have hc4 := (Bk.new w3 2 #[.int .i64 1, .int .i64 2]).fr hf4 fun h => h
  have hb5 := Bk.new w4 46 #[.int .i64 1, .int .i64 0, .bool false, .int .i64 0, .bool false, .int .i64 2, .int .i64 0, .bool true, .int .i64 5, .bool true]
  clear hf4 hf4' HF3
  go_wp2_with fail
  refine (graph_call (who := [1, 2]) (ts := wT2) (ints_of_bk (xs := [1, 2]) (hc4.alloc _)) (by decide) (by decide) (by decide) (sl_of_bk hb5 rfl) (fun a n c e => by cases e; exact Nat.le_refl _) (by decide)).mono ?_
  rintro e w5 ⟨hbk, rfl, hg, hf5⟩
  rw [wG2] at hg
  have hf5' := ((Fr.refl w4 Nil).alloc _).trans0 hf5
  have HF5 := Lib.hid (HF4.out.trans0 hf5')
  have HU0 := Lib.hid (hf5'.cell HU0.out fun h => h)
  have HU1 := Lib.hid (hf5'.cell HU1.out fun h => h)
  obtain ⟨ub, uoff, ucap, hue, huc⟩ := hg.form (by decide)
  simp only [Value.slice.injEq, Option.some.injEq, Addr.mk.injEq, true_and, and_true, List.length_cons, List.length_nil] at hue
  obtain ⟨⟨rfl, rfl⟩, rfl⟩ := hue
  obtain ⟨u2, hu2, hx2, _⟩ := huc 0 [1] rfl
  obtain ⟨u3, hu3, hx3, _⟩ := huc 1 [] rfl
  obtain ⟨a2, c2, rfl⟩ := hx2.shape
  obtain ⟨a3, c3, rfl⟩ := hx3.shape
  have HG := Lib.hid hg
  have HU2 := Lib.hid hu2
  have HU3 := Lib.hid hu3
  clear hg huc hx2 hx3 hu2 hu3 hf5 hf5' hc4 hb5 HF4
  go_wp2_with fail
  refine (order_any _ _ [[1], []] [] _ HG.out (.inl ⟨rfl, rfl⟩) (by decide) (by decide)).mono ?_
  rintro e w6 ⟨pa, pcap, rfl, hord, _, hf6⟩
  rw [wO3] at hord ⊢
  rw [wO2]
  have HF6 := Lib.hid (HF5.out.trans0 hf6)
  have HORD := Lib.hid hord
  have q0 := hf6.cell HU0.out fun h => h
  have q1 := hf6.cell HU1.out fun h => h
  have q2 := hf6.cell HU2.out fun h => h
  have q3 := hf6.cell HU3.out fun h => h
  clear hf6 hord HU0 HU1 HU2 HU3 HG HF5
  go_wp2_with fail
  have hc6 := Bk.new w6 3 #[.int .i64 0, .int .i64 1]
  refine (same_any _ _ [0, 1] [0, 1] _ (HORD.out.at.fr ((Fr.refl w6 Nil).alloc _) fun _ _ h => h) (ints_of_bk (xs := [0, 1]) hc6) (by decide)).mono ?_
  rintro e w7 ⟨rfl, hf7⟩
  have HF7 := Lib.hid ((HF6.out.alloc _).trans0 hf7)
  clear hf7 hc6 q0 q1 q2 q3
  rw [show sameB [0, 1] [0, 1] = true by decide]
  go_wp2_with fail
  go_ret
  exact ⟨rfl, HF7.out⟩
end Go.Proofs.Ytegejcmihojhbaa
