/-
  Walk of the chapter's examples.
  No condition but sizes.
-/
import Derived.Test.YtkeiphmhckkniaaWtLaw2
import Derived.Test.YtkeiphmhckkniaaWtRing
import Derived.Test.YtkeiphmhckkniaaWtParts
namespace Go.Proofs.Ytkeiphmhckkniaa
open Go Go.RowKit

theorem graph_bk {W : World} {g : Nat} {e : TypeId} {vs : List Value} {G : List (List Int)} {n : Nat} (hb : Bk W g e vs) (hn : vs.length = n) (hg : G.length = n) (hr : ∀ (i : Nat) (xs : List Int), G[i]? = some xs → ∃ u, vs[i]? = some u ∧ IntsAt W u xs ∧ xs.length ≤ 1000000) : GraphAt W (.slice (some ⟨g, 0, none⟩) n n) G := by
  refine ⟨vs, ?_, hr⟩
  rw [hg]
  refine ⟨by rw [hn]; omega, .inr ⟨⟨g, 0, none⟩, n, rfl, fun k v hv => ?_⟩⟩
  rw [Addr.add_lit, Nat.zero_add, hb.cell k]
  exact hv
def exA : List (List Int) := [[1], [0, 2], [0]]
def exB : List (List Int) := [[1, 2], [2], []]
def exC : List (List Int) := [[0]]
theorem exA_ring0 : ringP exA 0 = [0, 1] := by decide
theorem exA_ring2 : ringP exA 2 = [2, 0, 1] := by decide
theorem exA_ok : okP exA [] = false := by decide
theorem exA_parts : (partsP exA).length = 1 := by decide
theorem exB_ring0 : ringP exB 0 = [] := by decide
theorem exB_ok : okP exB [] = true ∧ sortedP exB = [0, 1, 2] := by decide
theorem exB_reach : reachP exB 0 = [1, 2] := by decide
theorem exC_ring : ringP exC 0 = [0] := by decide
/-- Rings and reaches at known graphs. -/
def LitRet (xs : List Int) (w : World) (e : Ending) (w' : World) : Prop := ∃ a c, e = .returned (.slice a xs.length c) ∧ IntsAt w' (.slice a xs.length c) xs ∧ Fr w w' Nil
theorem RowRet.lit {xs : List Int} {w : World} {e : Ending} {w' : World} (h : RowRet xs w e w') : LitRet xs w e w' := by
  obtain ⟨a, c, rfl, ho, _, hf⟩ := h
  exact ⟨a, c, rfl, ho.at, hf⟩
theorem ring_lit {gv : Value} {G : List (List Int)} {i : Int} {w : World} (xs : List Int) (h : GraphAt w gv G) (hl : G.length ≤ 1000) (e : ringZ G i = xs) : Calls Try.prog 16 #[gv, .int .i64 i] w (LitRet xs w) := by
  subst e
  exact (ring_any gv G i w h hl).mono fun e w' h => h.lit
theorem reach_lit {gv : Value} {G : List (List Int)} {i : Int} {w : World} (xs : List Int) (h : GraphAt w gv G) (hl : G.length ≤ 1000) (e : reachZ G i = xs) : Calls Try.prog 23 #[gv, .int .i64 i] w (LitRet xs w) := by
  subst e
  exact (reach_any gv G i w h hl).mono fun e w' h => h.lit
theorem ints_lit (w : World) (cs : Array Value) (n : Nat) (xs : List Int) (hc : cs.toList = xs.map (Value.int .i64)) (hn : xs.length = n) (hm : n ≤ 1000000) : IntsAt (w.alloc (.cells cs 3)) (.slice (some ⟨w.heap.size, 0, none⟩) n n) xs :=
  (((Lies.nil (Fr.refl w Nil)).lit cs n xs hc hn hm).row 0 rfl).at
theorem sameT {a b : Value} {xs : List Int} {w : World} (ha : IntsAt w a xs) (hb : IntsAt w b xs) (hl : xs.length ≤ 1000000) : Calls Try.prog 15 #[a, b] w fun e w' => e = .returned (.bool true) ∧ Fr w w' Nil :=
  (sameInts_any a b xs xs w ha hb hl hl).mono fun e w' h => ⟨by rw [h.1]; simp, h.2⟩
theorem Lies.gshapeAny {w0 W : World} {l : List Thing} {v : Value} {G : List (List Int)} (h : Lies w0 W l) (i : Nat) (hi : l[i]? = some (gT v G)) : ∃ a c, v = .slice a G.length c := by
  obtain ⟨S, ⟨vs, h1, _⟩, _⟩ := h.get i _ hi
  rcases h1.2 with ⟨e, h0⟩ | ⟨g, cap, cur, hv, _⟩
  · exact ⟨none, 0, by rw [e, h0]⟩
  · exact ⟨_, cap, hv⟩
set_option maxRecDepth 100000 in
set_option maxHeartbeats 2000000 in
theorem works_any (w : World) : Calls Try.prog 11 #[] w fun e w' => e = .returned (.bool true) ∧ Fr w w' Nil := by
  have h0 := (((Lies.nil (Fr.refl w Nil)).lit #[.int .i64 1] 1 [1] rfl rfl (by decide)).lit #[.int .i64 0, .int .i64 2] 2 [0, 2] rfl rfl (by decide)).lit #[.int .i64 0] 1 [0] rfl rfl (by decide)
  simp only [World.size_alloc] at h0
  have h1 := h0.newBk 27 #[.slice (some ⟨w.heap.size, 0, none⟩) 1 1, .slice (some ⟨w.heap.size + 1, 0, none⟩) 2 2, .slice (some ⟨w.heap.size + 1 + 1, 0, none⟩) 1 1]
  have h2 := (h1.lit #[.int .i64 1, .int .i64 2] 2 [1, 2] rfl rfl (by decide)).lit #[.int .i64 2] 1 [2] rfl rfl (by decide)
  simp only [World.size_alloc] at h2
  have h3 := h2.newBk 27 #[.slice (some ⟨w.heap.size + 1 + 1 + 1 + 1, 0, none⟩) 2 2, .slice (some ⟨w.heap.size + 1 + 1 + 1 + 1 + 1, 0, none⟩) 1 1, .slice none 0 0]
  simp only [World.size_alloc] at h3
  have HL := Lib.hid h3
  clear h0 h1 h2 h3
  go_enter Try.func11, Try.ntmps11
  go_wp2_with fail
  have hga := graph_bk (G := exA) (HL.out.bk 3 rfl) rfl rfl fun i xs hi => by
    rcases i with _ | _ | _ | i
    · cases hi; exact ⟨_, rfl, (HL.out.row 0 rfl).at, by decide⟩
    · cases hi; exact ⟨_, rfl, (HL.out.row 1 rfl).at, by decide⟩
    · cases hi; exact ⟨_, rfl, (HL.out.row 2 rfl).at, by decide⟩
    · cases hi
  have hgb := graph_bk (G := exB) (HL.out.bk 6 rfl) rfl rfl fun i xs hi => by
    rcases i with _ | _ | _ | i
    · cases hi; exact ⟨_, rfl, (HL.out.row 4 rfl).at, by decide⟩
    · cases hi; exact ⟨_, rfl, (HL.out.row 5 rfl).at, by decide⟩
    · cases hi; exact ⟨_, rfl, .inl ⟨rfl, rfl⟩, by decide⟩
    · cases hi
  have hfw := HL.out.fr
  clear HL
  generalize ((((((w.alloc (.cells #[.int .i64 1] 3)).alloc (.cells #[.int .i64 0, .int .i64 2] 3)).alloc (.cells #[.int .i64 0] 3)).alloc (.cells #[.slice (some ⟨w.heap.size, 0, none⟩) 1 1, .slice (some ⟨w.heap.size + 1, 0, none⟩) 2 2, .slice (some ⟨w.heap.size + 1 + 1, 0, none⟩) 1 1] 27)).alloc (.cells #[.int .i64 1, .int .i64 2] 3)).alloc (.cells #[.int .i64 2] 3)).alloc (.cells #[.slice (some ⟨w.heap.size + 1 + 1 + 1 + 1, 0, none⟩) 2 2, .slice (some ⟨w.heap.size + 1 + 1 + 1 + 1 + 1, 0, none⟩) 1 1, .slice none 0 0] 27) = W0 at *
  generalize w.heap.size + 1 + 1 + 1 + 1 + 1 + 1 = nb at *
  generalize w.heap.size + 1 + 1 + 1 = na at *
  have HGA := Lib.hid hga
  have HGB := Lib.hid hgb
  have HFW := Lib.hid hfw
  clear hga hgb hfw
  refine (sorted_any _ exB W0 HGB.out (by decide)).mono ?_
  rintro e w1 ⟨sa, sc, rfl, ho, -, hf⟩
  rw [exB_ok.2] at ho
  rw [exB_ok.1, exB_ok.2]
  have HSO : Hid (IntsAt w1 (.slice sa 3 sc) [0, 1, 2]) := ho.at
  have HF1 := Lib.hid hf
  have HSX1 := HSO
  clear ho hf
  simp only [List.length_cons, List.length_nil, Nat.zero_add, Nat.reduceAdd]
  go_wp2_with fail
  refine (ring_lit [0, 1] (HGA.out.fr0 HF1.out) (by decide) (by decide)).mono ?_
  rintro e w2 ⟨va, vc, rfl, hi, hf⟩
  simp only [List.length_cons, List.length_nil, Nat.zero_add, Nat.reduceAdd] at hi ⊢
  have HI := Lib.hid hi
  have HF2 := Lib.hid (HF1.out.trans0 hf)
  have HSX2 := Lib.hid (HSX1.out.fr hf (fun _ _ h => h))
  clear hi hf
  go_wp2_with fail
  refine (sameT (xs := [0, 1]) ((HI.out).fr ((Fr.refl w2 Nil).alloc _) (fun _ _ h => h)) (ints_lit w2 #[.int .i64 0, .int .i64 1] 2 [0, 1] rfl rfl (by decide)) (by decide)).mono ?_
  rintro e w3 ⟨rfl, hf⟩
  have HF3 := Lib.hid ((HF2.out.alloc _).trans0 hf)
  have HSX3 := Lib.hid (HSX2.out.fr (((Fr.refl _ Nil).alloc _).trans0 hf) (fun _ _ h => h))
  clear hf
  clear HI
  go_wp2_with fail
  refine (ring_lit [2, 0, 1] (HGA.out.fr0 HF3.out) (by decide) (by decide)).mono ?_
  rintro e w4 ⟨va, vc, rfl, hi, hf⟩
  simp only [List.length_cons, List.length_nil, Nat.zero_add, Nat.reduceAdd] at hi ⊢
  have HI := Lib.hid hi
  have HF4 := Lib.hid (HF3.out.trans0 hf)
  have HSX4 := Lib.hid (HSX3.out.fr hf (fun _ _ h => h))
  clear hi hf
  go_wp2_with fail
  refine (sameT (xs := [2, 0, 1]) ((HI.out).fr ((Fr.refl w4 Nil).alloc _) (fun _ _ h => h)) (ints_lit w4 #[.int .i64 2, .int .i64 0, .int .i64 1] 3 [2, 0, 1] rfl rfl (by decide)) (by decide)).mono ?_
  rintro e w5 ⟨rfl, hf⟩
  have HF5 := Lib.hid ((HF4.out.alloc _).trans0 hf)
  have HSX5 := Lib.hid (HSX4.out.fr (((Fr.refl _ Nil).alloc _).trans0 hf) (fun _ _ h => h))
  clear hf
  clear HI
  go_wp2_with fail
  refine (acyclic_any _ exA w5 (HGA.out.fr0 HF5.out) (by decide)).mono ?_
  rintro e w6 ⟨rfl, hf⟩
  rw [exA_ok]
  have HF6 := Lib.hid (HF5.out.trans0 hf)
  have HSX6 := Lib.hid (HSX5.out.fr hf (fun _ _ h => h))
  clear hf
  go_wp2_with fail
  refine (parts_any _ exA w6 (HGA.out.fr0 HF6.out) (by decide)).mono ?_
  rintro e w7 ⟨pv, rfl, hL⟩
  obtain ⟨pa, pc, rfl⟩ := hL.gshapeAny 0 rfl
  rw [exA_parts]
  have HF7 := Lib.hid (HF6.out.trans0 hL.fr)
  have HSX7 := Lib.hid (HSX6.out.fr hL.fr (fun _ _ h => h))
  clear hL
  go_wp2_with fail
  refine (ring_lit [] (HGB.out.fr0 HF7.out) (by decide) (by decide)).mono ?_
  rintro e w8 ⟨va, vc, rfl, hi, hf⟩
  simp only [List.length_nil] at hi ⊢
  have HI := Lib.hid hi
  have HF8 := Lib.hid (HF7.out.trans0 hf)
  have HSX8 := Lib.hid (HSX7.out.fr hf (fun _ _ h => h))
  clear hi hf
  clear HI
  go_wp2_with fail
  refine (sameT (xs := [0, 1, 2]) ((HSX8.out).fr ((Fr.refl w8 Nil).alloc _) (fun _ _ h => h)) (ints_lit w8 #[.int .i64 0, .int .i64 1, .int .i64 2] 3 [0, 1, 2] rfl rfl (by decide)) (by decide)).mono ?_
  rintro e w9 ⟨rfl, hf⟩
  have HF9 := Lib.hid ((HF8.out.alloc _).trans0 hf)
  have HSX9 := Lib.hid (HSX8.out.fr (((Fr.refl _ Nil).alloc _).trans0 hf) (fun _ _ h => h))
  clear hf
  go_wp2_with fail
  refine (reach_lit [1, 2] (HGB.out.fr0 HF9.out) (by decide) (by decide)).mono ?_
  rintro e w10 ⟨va, vc, rfl, hi, hf⟩
  simp only [List.length_cons, List.length_nil, Nat.zero_add, Nat.reduceAdd] at hi ⊢
  have HI := Lib.hid hi
  have HF10 := Lib.hid (HF9.out.trans0 hf)
  have HSX10 := Lib.hid (HSX9.out.fr hf (fun _ _ h => h))
  clear hi hf
  go_wp2_with fail
  refine (sameT (xs := [1, 2]) ((HI.out).fr ((Fr.refl w10 Nil).alloc _) (fun _ _ h => h)) (ints_lit w10 #[.int .i64 1, .int .i64 2] 2 [1, 2] rfl rfl (by decide)) (by decide)).mono ?_
  rintro e w11 ⟨rfl, hf⟩
  have HF11 := Lib.hid ((HF10.out.alloc _).trans0 hf)
  have HSX11 := Lib.hid (HSX10.out.fr (((Fr.refl _ Nil).alloc _).trans0 hf) (fun _ _ h => h))
  clear hf
  clear HI
  have hc1 := ((Lies.nil (Fr.refl w11 Nil)).lit #[.int .i64 0] 1 [0] rfl rfl (by decide)).newBk 27 #[.slice (some ⟨w11.heap.size, 0, none⟩) 1 1]
  simp only [World.size_alloc] at hc1
  have HC := Lib.hid hc1
  clear hc1
  have hgc := graph_bk (G := exC) (HC.out.bk 1 rfl) rfl rfl fun i xs hi => by
    rcases i with _ | i
    · cases hi; exact ⟨_, rfl, (HC.out.row 0 rfl).at, by decide⟩
    · cases hi
  have HGC := Lib.hid hgc
  have HF12 := Lib.hid (HF11.out.trans0 HC.out.fr)
  have HSX12 := Lib.hid (HSX11.out.fr HC.out.fr (fun _ _ h => h))
  clear hgc
  go_wp2_with fail
  generalize (w11.alloc (.cells #[.int .i64 0] 3)).alloc (.cells #[.slice (some ⟨w11.heap.size, 0, none⟩) 1 1] 27) = w12 at *
  generalize w11.heap.size + 1 = nc at *
  clear HC
  refine (ring_lit [0] HGC.out (by decide) (by decide)).mono ?_
  rintro e w13 ⟨va, vc, rfl, hi, hf⟩
  simp only [List.length_cons, List.length_nil, Nat.zero_add] at hi ⊢
  have HI := Lib.hid hi
  have HF13 := Lib.hid (HF12.out.trans0 hf)
  have HSX13 := Lib.hid (HSX12.out.fr hf (fun _ _ h => h))
  clear hi hf
  go_wp2_with fail
  refine (sameT (xs := [0]) ((HI.out).fr ((Fr.refl w13 Nil).alloc _) (fun _ _ h => h)) (ints_lit w13 #[.int .i64 0] 1 [0] rfl rfl (by decide)) (by decide)).mono ?_
  rintro e w14 ⟨rfl, hf⟩
  have HF14 := Lib.hid ((HF13.out.alloc _).trans0 hf)
  have HSX14 := Lib.hid (HSX13.out.fr (((Fr.refl _ Nil).alloc _).trans0 hf) (fun _ _ h => h))
  clear hf
  go_wp2_with fail
  go_ret
  exact ⟨rfl, HFW.out.trans0 HF14.out⟩
end Go.Proofs.Ytkeiphmhckkniaa
