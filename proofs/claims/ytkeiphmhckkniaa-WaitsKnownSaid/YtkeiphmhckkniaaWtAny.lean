/-
  Walk of WaitsAny: it answers true.
  No condition but sizes.
-/
import Derived.Test.YtkeiphmhckkniaaWtWorks
import Derived.Test.YtkeiphmhckkniaaWtRingLP
import Derived.Test.YtkeiphmhckkniaaWtDoc2
import Derived.Test.YtkeiphmhckkniaaWtDoc3
namespace Go.Proofs.Ytkeiphmhckkniaa
open Go Go.RowKit

theorem dringZ_any (gv : Value) (G : List (List Int)) (i : Int) (w : World) (h : GraphAt w gv G) (hl : G.length ≤ 1000) : Calls Try.prog 17 #[gv, .int .i64 i] w (IRet (ringZ G i) w) := by
  unfold ringZ
  exact dring_any gv G i w h hl
theorem dreachZ_any (gv : Value) (G : List (List Int)) (i : Int) (w : World) (h : GraphAt w gv G) (hl : G.length ≤ 1000) : Calls Try.prog 24 #[gv, .int .i64 i] w (IRet (reachZ G i) w) := by
  unfold reachZ
  exact dreach_any gv G i w h hl
theorem partsP_few (G : List (List Int)) (hl : G.length ≤ 1000) : ∀ xs ∈ partsP G, xs.length ≤ 1000000 := fun xs hx => by
  unfold partsP partsTo at hx
  obtain ⟨i, _, rfl⟩ := List.mem_map.1 hx
  have := partOf_len G i
  rw [ints_len]; omega
theorem ringZ_few (G : List (List Int)) (i : Int) : (ringZ G i).length ≤ G.length := by
  unfold ringZ
  split
  · rw [ints_len]; exact ringP_len G _
  · simp
theorem reachZ_few (G : List (List Int)) (i : Int) : (reachZ G i).length ≤ G.length := by
  unfold reachZ
  split
  · exact reachP_len G _
  · simp
theorem sortedP_few (G : List (List Int)) : (sortedP G).length ≤ G.length := by
  unfold sortedP
  split
  · exact (orderP_chain G []).2.len
  · simp
set_option maxRecDepth 100000 in
set_option maxHeartbeats 2000000 in
theorem wany_any (gv : Value) (G : List (List Int)) (i : Int) (w : World) (h : GraphW w gv G) :
    Calls Try.prog 3 #[gv, .int .i64 i] w fun e w' => e = .returned (.bool true) ∧ Fr w w' Nil := by
  obtain ⟨ga, gc, rfl⟩ := h.shape
  have HW := Lib.hid h
  clear h
  go_enter Try.func3, Try.ntmps3
  go_wp2_with fail
  refine (few_any _ G 8 w HW.out (by decide)).mono ?_
  rintro e w0 ⟨rfl, rfl⟩
  cases hfew : fewP G 8 with
  | false =>
    clear hfew
    go_wp2_with fail
    refine (works_any w).mono ?_
    rintro e w1 ⟨rfl, hf⟩
    have HF := Lib.hid hf
    clear hf
    go_wp2_with fail
    go_ret
    exact ⟨rfl, HF.out⟩
  | true =>
    obtain ⟨w0, hw0⟩ : ∃ w0 : World, w0 = w := ⟨_, rfl⟩
    subst hw0
    have HGg0 := Lib.hid (HW.out.at hfew (by decide))
    have hl := (fewP_true hfew).1
    have HRB : Hid (∀ xs ∈ G, xs.length ≤ 100000) := fun xs hx => by have := (fewP_true hfew).2 xs hx; omega
    have HRB2 : Hid (∀ xs ∈ G, xs.length ≤ 1000000) := fun xs hx => by have := (fewP_true hfew).2 xs hx; omega
    have HPB := Lib.hid (partsP_few G (by omega))
    have HF0 := Lib.hid (Fr.refl w0 Nil)
    have hb1 := ringZ_few G i
    have hb2 := reachZ_few G i
    have hb3 := sortedP_few G
    have hb4 := partsTo_len G G.length
    clear hfew
    go_wp2_with fail
    refine (own_any _ G w0 HGg0.out (by omega) HRB.out).mono ?_
    rintro e w1 ⟨xb, rfl, hL⟩
    have hx := hL.graph 0 rfl HRB2.out
    have HF1 := Lib.hid (HF0.out.trans0 hL.fr)
    have HGg1 := Lib.hid (HGg0.out.fr0 hL.fr)
    clear HF0 HGg0
    have HGx1 := Lib.hid (hx)
    clear hL hx
    go_wp2_with fail
    refine (sorted_any _ G w1 HGx1.out (by omega)).mono ?_
    rintro e w2 ⟨pa, pc, rfl, ho, -, hf⟩
    have hi := ho.at
    have HF2 := Lib.hid (HF1.out.trans0 hf)
    have HGg2 := Lib.hid (HGg1.out.fr0 hf)
    have HGx2 := Lib.hid (HGx1.out.fr0 hf)
    clear HF1 HGg1 HGx1
    have HSp2 := Lib.hid (hi)
    clear ho hi hf
    go_wp2_with fail
    refine (dsorted_any _ G w2 HGg2.out (by omega)).mono ?_
    rintro e w3 ⟨qa, qc, rfl, ho, -, hf⟩
    have hi := ho.at
    have HF3 := Lib.hid (HF2.out.trans0 hf)
    have HGg3 := Lib.hid (HGg2.out.fr0 hf)
    have HGx3 := Lib.hid (HGx2.out.fr0 hf)
    have HSp3 := Lib.hid (HSp2.out.fr hf (fun _ _ h => h))
    clear HF2 HGg2 HGx2 HSp2
    have HSq3 := Lib.hid (hi)
    clear ho hi hf
    go_wp2_with fail
    refine (ring_any _ G i w3 HGx3.out (by omega)).mono ?_
    rintro e w4 ⟨ra, rc, rfl, ho, -, hf⟩
    have hi := ho.at
    have HF4 := Lib.hid (HF3.out.trans0 hf)
    have HGg4 := Lib.hid (HGg3.out.fr0 hf)
    have HGx4 := Lib.hid (HGx3.out.fr0 hf)
    have HSp4 := Lib.hid (HSp3.out.fr hf (fun _ _ h => h))
    have HSq4 := Lib.hid (HSq3.out.fr hf (fun _ _ h => h))
    clear HF3 HGg3 HGx3 HSp3 HSq3
    have HIr4 := Lib.hid (hi)
    clear ho hi hf
    go_wp2_with fail
    refine (dringZ_any _ G i w4 HGg4.out (by omega)).mono ?_
    rintro e w5 ⟨v, rfl, hi, hf⟩
    have HF5 := Lib.hid (HF4.out.trans0 hf)
    have HGg5 := Lib.hid (HGg4.out.fr0 hf)
    have HGx5 := Lib.hid (HGx4.out.fr0 hf)
    have HSp5 := Lib.hid (HSp4.out.fr hf (fun _ _ h => h))
    have HSq5 := Lib.hid (HSq4.out.fr hf (fun _ _ h => h))
    have HIr5 := Lib.hid (HIr4.out.fr hf (fun _ _ h => h))
    clear HF4 HGg4 HGx4 HSp4 HSq4 HIr4
    have HIs5 := Lib.hid (hi)
    obtain ⟨sa, sc, rfl⟩ := hi.shape
    clear hi hf
    go_wp2_with fail
    refine (sameT HIr5.out HIs5.out (by omega)).mono ?_
    rintro e w6 ⟨rfl, hf⟩
    have HF6 := Lib.hid (HF5.out.trans0 hf)
    have HGg6 := Lib.hid (HGg5.out.fr0 hf)
    have HGx6 := Lib.hid (HGx5.out.fr0 hf)
    have HSp6 := Lib.hid (HSp5.out.fr hf (fun _ _ h => h))
    have HSq6 := Lib.hid (HSq5.out.fr hf (fun _ _ h => h))
    have HIr6 := Lib.hid (HIr5.out.fr hf (fun _ _ h => h))
    have HIs6 := Lib.hid (HIs5.out.fr hf (fun _ _ h => h))
    clear HF5 HGg5 HGx5 HSp5 HSq5 HIr5 HIs5
    clear hf
    clear HIr6
    clear HIs6
    go_wp2_with fail
    refine (acyclic_any _ G w6 HGx6.out (by omega)).mono ?_
    rintro e w7 ⟨rfl, hf⟩
    have HF7 := Lib.hid (HF6.out.trans0 hf)
    have HGg7 := Lib.hid (HGg6.out.fr0 hf)
    have HGx7 := Lib.hid (HGx6.out.fr0 hf)
    have HSp7 := Lib.hid (HSp6.out.fr hf (fun _ _ h => h))
    have HSq7 := Lib.hid (HSq6.out.fr hf (fun _ _ h => h))
    clear HF6 HGg6 HGx6 HSp6 HSq6
    clear hf
    go_wp2_with fail
    refine (acyc_any _ G w7 HGg7.out (by omega)).mono ?_
    rintro e w8 ⟨rfl, hf⟩
    rw [← ok_acyc G []]
    have HF8 := Lib.hid (HF7.out.trans0 hf)
    have HGg8 := Lib.hid (HGg7.out.fr0 hf)
    have HGx8 := Lib.hid (HGx7.out.fr0 hf)
    have HSp8 := Lib.hid (HSp7.out.fr hf (fun _ _ h => h))
    have HSq8 := Lib.hid (HSq7.out.fr hf (fun _ _ h => h))
    clear HF7 HGg7 HGx7 HSp7 HSq7
    clear hf
    go_wp2_with fail
    refine (parts_any _ G w8 HGx8.out (by omega)).mono ?_
    rintro e w9 ⟨uv, rfl, hL⟩
    have hg := hL.graph 0 rfl HPB.out
    have HF9 := Lib.hid (HF8.out.trans0 hL.fr)
    have HGg9 := Lib.hid (HGg8.out.fr0 hL.fr)
    have HGx9 := Lib.hid (HGx8.out.fr0 hL.fr)
    have HSp9 := Lib.hid (HSp8.out.fr hL.fr (fun _ _ h => h))
    have HSq9 := Lib.hid (HSq8.out.fr hL.fr (fun _ _ h => h))
    clear HF8 HGg8 HGx8 HSp8 HSq8
    have HGu9 := Lib.hid (hg)
    clear hL hg
    go_wp2_with fail
    refine (dparts_any _ G w9 HGg9.out (by omega)).mono ?_
    rintro e w10 ⟨vv, rfl, hL⟩
    have hg := hL.graph 0 rfl HPB.out
    have HF10 := Lib.hid (HF9.out.trans0 hL.fr)
    have HGg10 := Lib.hid (HGg9.out.fr0 hL.fr)
    have HGx10 := Lib.hid (HGx9.out.fr0 hL.fr)
    have HSp10 := Lib.hid (HSp9.out.fr hL.fr (fun _ _ h => h))
    have HSq10 := Lib.hid (HSq9.out.fr hL.fr (fun _ _ h => h))
    have HGu10 := Lib.hid (HGu9.out.fr0 hL.fr)
    clear HF9 HGg9 HGx9 HSp9 HSq9 HGu9
    have HGv10 := Lib.hid (hg)
    clear hL hg
    go_wp2_with fail
    refine (sameRows_any _ _ (partsP G) (partsP G) w10 HGu10.out HGv10.out (by unfold partsP; omega) (by unfold partsP; omega)).mono ?_
    rintro e w11 ⟨rfl, hf⟩
    rw [decide_eq_true rfl]
    have HF11 := Lib.hid (HF10.out.trans0 hf)
    have HGg11 := Lib.hid (HGg10.out.fr0 hf)
    have HGx11 := Lib.hid (HGx10.out.fr0 hf)
    have HSp11 := Lib.hid (HSp10.out.fr hf (fun _ _ h => h))
    have HSq11 := Lib.hid (HSq10.out.fr hf (fun _ _ h => h))
    have HGu11 := Lib.hid (HGu10.out.fr0 hf)
    have HGv11 := Lib.hid (HGv10.out.fr0 hf)
    clear HF10 HGg10 HGx10 HSp10 HSq10 HGu10 HGv10
    clear hf
    clear HGu11
    clear HGv11
    go_wp2_with fail
    refine (reach_any _ G i w11 HGx11.out (by omega)).mono ?_
    rintro e w12 ⟨ra, rc, rfl, ho, -, hf⟩
    have hi := ho.at
    have HF12 := Lib.hid (HF11.out.trans0 hf)
    have HGg12 := Lib.hid (HGg11.out.fr0 hf)
    have HGx12 := Lib.hid (HGx11.out.fr0 hf)
    have HSp12 := Lib.hid (HSp11.out.fr hf (fun _ _ h => h))
    have HSq12 := Lib.hid (HSq11.out.fr hf (fun _ _ h => h))
    clear HF11 HGg11 HGx11 HSp11 HSq11
    have HIr12 := Lib.hid (hi)
    clear ho hi hf
    go_wp2_with fail
    refine (dreachZ_any _ G i w12 HGg12.out (by omega)).mono ?_
    rintro e w13 ⟨v, rfl, hi, hf⟩
    have HF13 := Lib.hid (HF12.out.trans0 hf)
    have HGg13 := Lib.hid (HGg12.out.fr0 hf)
    have HGx13 := Lib.hid (HGx12.out.fr0 hf)
    have HSp13 := Lib.hid (HSp12.out.fr hf (fun _ _ h => h))
    have HSq13 := Lib.hid (HSq12.out.fr hf (fun _ _ h => h))
    have HIr13 := Lib.hid (HIr12.out.fr hf (fun _ _ h => h))
    clear HF12 HGg12 HGx12 HSp12 HSq12 HIr12
    have HIs13 := Lib.hid (hi)
    obtain ⟨sa, sc, rfl⟩ := hi.shape
    clear hi hf
    go_wp2_with fail
    refine (sameT HIr13.out HIs13.out (by omega)).mono ?_
    rintro e w14 ⟨rfl, hf⟩
    have HF14 := Lib.hid (HF13.out.trans0 hf)
    have HGg14 := Lib.hid (HGg13.out.fr0 hf)
    have HGx14 := Lib.hid (HGx13.out.fr0 hf)
    have HSp14 := Lib.hid (HSp13.out.fr hf (fun _ _ h => h))
    have HSq14 := Lib.hid (HSq13.out.fr hf (fun _ _ h => h))
    have HIr14 := Lib.hid (HIr13.out.fr hf (fun _ _ h => h))
    have HIs14 := Lib.hid (HIs13.out.fr hf (fun _ _ h => h))
    clear HF13 HGg13 HGx13 HSp13 HSq13 HIr13 HIs13
    clear hf
    clear HIr14
    clear HIs14
    go_wp2_with fail
    refine (sameT HSp14.out HSq14.out (by rw [ints_len]; omega)).mono ?_
    rintro e w15 ⟨rfl, hf⟩
    have HF15 := Lib.hid (HF14.out.trans0 hf)
    have HGg15 := Lib.hid (HGg14.out.fr0 hf)
    have HGx15 := Lib.hid (HGx14.out.fr0 hf)
    have HSp15 := Lib.hid (HSp14.out.fr hf (fun _ _ h => h))
    have HSq15 := Lib.hid (HSq14.out.fr hf (fun _ _ h => h))
    clear HF14 HGg14 HGx14 HSp14 HSq14
    clear hf
    clear HSp15
    clear HSq15
    go_wp2_with fail
    refine (sameRows_any _ _ G G w15 HGx15.out HGg15.out (by omega) (by omega)).mono ?_
    rintro e w16 ⟨rfl, hf⟩
    rw [decide_eq_true rfl]
    have HF16 := Lib.hid (HF15.out.trans0 hf)
    have HGg16 := Lib.hid (HGg15.out.fr0 hf)
    have HGx16 := Lib.hid (HGx15.out.fr0 hf)
    clear HF15 HGg15 HGx15
    clear hf
    clear HGx16
    clear HGg16
    go_wp2_with fail
    refine (works_any w16).mono ?_
    rintro e w17 ⟨rfl, hf⟩
    have HF17 := Lib.hid (HF16.out.trans0 hf)
    clear HF16
    clear hf
    go_wp2_with fail
    go_ret
    exact ⟨rfl, HF17.out⟩
end Go.Proofs.Ytkeiphmhckkniaa
