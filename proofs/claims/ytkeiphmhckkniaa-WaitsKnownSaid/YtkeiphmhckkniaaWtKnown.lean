/-
  Walk of WaitsKnown: it answers true.
  No condition but sizes.
-/
import Derived.Test.YtkeiphmhckkniaaWtAny
import Derived.Test.YtkeiphmhckkniaaWtLRing
import Derived.Test.YtkeiphmhckkniaaWtLParts
import Derived.Test.YtkeiphmhckkniaaWtLSort
namespace Go.Proofs.Ytkeiphmhckkniaa
open Go Go.RowKit

theorem GraphAt.wide {w : World} {v : Value} {G : List (List Int)} (h : GraphAt w v G) (hl : G.length ≤ 1000) : GraphW w v G := by
  obtain ⟨vs, h1, h2⟩ := h
  exact ⟨vs, h1, by omega, fun i xs hi => by
    obtain ⟨u, k1, k2, k3⟩ := h2 i xs hi
    exact ⟨u, k1, k2, by omega⟩⟩
theorem GraphW.none (w : World) : GraphW w (.slice none 0 0) [] := ⟨[], SlAt.nil _ _, by simp, by simp⟩
theorem GraphW.fr0 {w w' : World} {v : Value} {G : List (List Int)} (h : GraphW w v G) (hf : Fr w w' Nil) : GraphW w' v G := by
  obtain ⟨vs, h1, h2, h3⟩ := h
  exact ⟨vs, h1.fr0 hf, h2, fun i xs hi => by
    obtain ⟨u, k1, k2, k3⟩ := h3 i xs hi
    exact ⟨u, k1, k2.fr hf (fun _ _ h => h), k3⟩⟩
def odd1 : List (List Int) := [[5, -1, 1, 1], [2, 4611686018427387904, 2], [-9223372036854775808]]
set_option maxRecDepth 100000 in
set_option maxHeartbeats 2000000 in
theorem wknown_any (w : World) : Calls Try.prog 9 #[] w fun e w' => e = .returned (.bool true) ∧ Fr w w' Nil := by
  obtain ⟨ir, hir, hr0, hr1, hr2⟩ := info_parts (P := Try.prog) (e := 27) (z := .slice none 0 0) (size := 1) (bytes := 24) (by kernel_rfl)
  go_enter Try.func9, Try.ntmps9
  go_wp2_with fail
  go_loopw [1] (fun vm wr => ∃ m : Nat, m ≤ 512 ∧ vm = .int .i64 (m : Int) ∧ Fr w wr Nil) (fun vm _ => 512 - (intOf vm).toNat)
  case atStart => exact ⟨0, by omega, rfl, Fr.refl _ _⟩
  case round =>
    obtain ⟨m, hm, rfl, hf⟩ := hrel
    have HF := Lib.hid hf
    clear hf
    by_cases hlt : m < 512
    · have hml : (m : Int) < 512 := by omega
      obtain ⟨w1, hrun, hown, hgr⟩ := run_make_full (P := Try.prog) wr 0 23 27 ir (.slice none 0 0) 1 Try.underlying23 hir hr0 hr1 .i64 .i64 3 (by rw [hr2]; decide) (by decide) (Nat.zero_le _)
      have HL0 := Lib.hid ((Lies.nil HF.out).gmade rfl hown ((Fr.refl wr Nil).grown hgr (fun k hk => by cases hk)))
      have hrun2 : (Instr.makeSlice 23 (.int .i64 3) (.int .i64 3)).run Try.prog wr = .ok (.slice (some ⟨wr.heap.size, 0, none⟩) 3 3) w1 := hrun
      clear hown hgr hrun
      go_wp2_with fail
      generalize wr.heap.size = gb at HL0 ⊢
      clear hrun2
      go_loopw [3] (fun vi wq => ∃ (i : Nat) (G : List (List Int)), i ≤ 9 ∧ vi = .int .i64 (i : Int) ∧ G.length = 3 ∧ (∀ xs ∈ G, xs.length ≤ i) ∧ Lies w wq [gT (.slice (some ⟨gb, 0, none⟩) 3 3) G]) (fun vi _ => 9 - (intOf vi).toNat)
      case atStart => exact ⟨0, List.replicate 3 [], by omega, rfl, rfl, (fun xs hx => by rw [(List.mem_replicate.1 hx).2]; simp), HL0.out⟩
      case round =>
        obtain ⟨i, G, hi, rfl, hgl, hrow, hL⟩ := hrel
        have HL := Lib.hid hL
        have HGL := Lib.hid hgl
        have HRW := Lib.hid hrow
        clear hL hgl hrow HL0
        by_cases hlt2 : i < 9
        · have hil : (i : Int) < 9 := by omega
          obtain ⟨q, r, hqr, hq, hr⟩ : ∃ q r : Nat, i = 3 * q + r ∧ q < 3 ∧ r < 3 := ⟨i / 3, i % 3, by omega, by omega, by omega⟩
          have e1 : (i : Int) / 3 = (q : Int) := by omega
          have e2 : Int.tdiv (i : Int) 3 = (q : Int) := by rw [Int.tdiv_eq_ediv_of_nonneg (by omega)]; omega
          have e3 : (i : Int) % 3 = (r : Int) := by omega
          have e4 : Int.tmod (i : Int) 3 = (r : Int) := by rw [Int.tmod_eq_emod_of_nonneg (by omega)]; omega
          have hqq : (q : Int) < 3 := by omega
          have hbq := List.getElem?_eq_getElem (l := G) (i := q) (by rw [HGL.out]; exact hq)
          have hyl := HRW.out _ (List.mem_of_getElem? hbq)
          generalize G[q]'(by rw [HGL.out]; exact hq) = ys at *
          obtain ⟨ya, yc, q2, -, f2⟩ := HL.out.gcell 0 rfl q ys hbq
          have HK0 := Lib.hid ((LK.start HL.out 0).newBk 3 #[.int .i64 (r : Int)])
          have HQ3 := Lib.hid (((Fr.refl wr Nil).alloc (.cells #[.int .i64 (r : Int)] 3)).cell q2 (fun h => h))
          have HBQ := Lib.hid hbq
          have HYL : Hid (ys.length ≤ 100000) := by
            have : ys.length ≤ 100000 := by omega
            exact this
          have HYI : Hid (ys.length ≤ i) := hyl
          clear hqr hbq hyl
          go_wp2_with (at_builtin; refine wpList_plain rfl fun K hK => ?_; refine wp_gapp _ _ rfl HK0.out rfl rfl 0 rfl HBQ.out HQ3.out 1 rfl HYL.out ?_; intro a6 c6 w6 hk6 q6 f6 hk7; have HK7 := Lib.hid (hk7.take 1); refine hK _ _ ?_; clear hK hk6 hk7)
          · go_roundw
            case rel => exact ⟨i + 1, G.set q (ys ++ [(r : Int)]), by omega, by go_num, by rw [List.length_set]; exact HGL.out, (fun xs hx => by
              rcases List.mem_or_eq_of_mem_set hx with h | rfl
              · have := HRW.out xs h; omega
              · have := HYI.out; simp; omega), HK7.out.1⟩
            case measure => simp [intOf]; omega
          · go_roundw
            case rel => exact ⟨i + 1, G, by omega, by go_num, HGL.out, (fun xs hx => by have := HRW.out xs hx; omega), HL.out⟩
            case measure => simp [intOf]; omega
        · obtain rfl : i = 9 := by omega
          obtain ⟨rm, hrm3, em, et⟩ : ∃ rm : Nat, rm < 3 ∧ (m : Int) % 3 = (rm : Int) ∧ Int.tmod (m : Int) 3 = (rm : Int) := ⟨m % 3, by omega, by omega, by rw [Int.tmod_eq_emod_of_nonneg (by omega)]; omega⟩
          have hgh := (HL.out.graph 0 rfl fun xs hx => by have := HRW.out xs hx; omega).wide (by rw [HGL.out]; omega)
          have HG := Lib.hid hgh
          have HFW := Lib.hid HL.out.fr
          clear hgh HL HRW HGL
          go_wp2_with fail
          refine (wany_any _ G _ wr HG.out).mono ?_
          rintro e v1 ⟨rfl, hf⟩
          have HF1 := Lib.hid hf
          clear hf
          go_wp2_with fail
          refine (wrings_any _ G v1 (HG.out.fr0 HF1.out)).mono ?_
          rintro e v2 ⟨rfl, hf⟩
          have HF2 := Lib.hid (HF1.out.trans0 hf)
          clear hf
          go_wp2_with fail
          refine (wparts_any _ G v2 (HG.out.fr0 HF2.out)).mono ?_
          rintro e v3 ⟨rfl, hf⟩
          have HF3 := Lib.hid (HF2.out.trans0 hf)
          clear hf
          go_wp2_with fail
          refine (wsort_any _ G v3 (HG.out.fr0 HF3.out)).mono ?_
          rintro e v4 ⟨rfl, hf⟩
          have HF4 := Lib.hid (HF3.out.trans0 hf)
          clear hf
          go_wp2_with fail
          go_roundw
          case rel => exact ⟨m + 1, by omega, by go_num, HFW.out.trans0 HF4.out⟩
          case measure => simp [intOf]; omega
    · obtain rfl : m = 512 := by omega
      have h1 := (((Lies.nil (Fr.refl wr Nil)).lit #[.int .i64 5, .int .i64 (-1), .int .i64 1, .int .i64 1] 4 [5, -1, 1, 1] rfl rfl (by decide)).lit #[.int .i64 2, .int .i64 4611686018427387904, .int .i64 2] 3 [2, 4611686018427387904, 2] rfl rfl (by decide)).lit #[.int .i64 (-9223372036854775808)] 1 [-9223372036854775808] rfl rfl (by decide)
      simp only [World.size_alloc] at h1
      have h2 := h1.newBk 27 #[.slice (some ⟨wr.heap.size, 0, none⟩) 4 4, .slice (some ⟨wr.heap.size + 1, 0, none⟩) 3 3, .slice (some ⟨wr.heap.size + 1 + 1, 0, none⟩) 1 1]
      simp only [World.size_alloc] at h2
      have HL := Lib.hid h2
      clear h1 h2
      go_wp2_with fail
      have hga := graph_bk (G := odd1) (HL.out.bk 3 rfl) rfl rfl fun i xs hi => by
        rcases i with _ | _ | _ | i
        · cases hi; exact ⟨_, rfl, (HL.out.row 0 rfl).at, by decide⟩
        · cases hi; exact ⟨_, rfl, (HL.out.row 1 rfl).at, by decide⟩
        · cases hi; exact ⟨_, rfl, (HL.out.row 2 rfl).at, by decide⟩
        · cases hi
      have HG := Lib.hid (hga.wide (by decide))
      have HFW := Lib.hid (HF.out.trans0 HL.out.fr)
      clear HL hga
      generalize (((wr.alloc (.cells #[.int .i64 5, .int .i64 (-1), .int .i64 1, .int .i64 1] 3)).alloc (.cells #[.int .i64 2, .int .i64 4611686018427387904, .int .i64 2] 3)).alloc (.cells #[.int .i64 (-9223372036854775808)] 3)).alloc (.cells #[.slice (some ⟨wr.heap.size, 0, none⟩) 4 4, .slice (some ⟨wr.heap.size + 1, 0, none⟩) 3 3, .slice (some ⟨wr.heap.size + 1 + 1, 0, none⟩) 1 1] 27) = W0 at *
      generalize wr.heap.size + 1 + 1 + 1 = na at *
      refine (wany_any _ odd1 _ W0 HG.out).mono ?_
      rintro e w1 ⟨rfl, hf⟩
      have HF1 := Lib.hid hf
      clear hf
      go_wp2_with fail
      refine (wany_any _ odd1 _ w1 (HG.out.fr0 HF1.out)).mono ?_
      rintro e w2 ⟨rfl, hf⟩
      have HF2 := Lib.hid (HF1.out.trans0 hf)
      clear hf
      go_wp2_with fail
      refine (wany_any _ odd1 _ w2 (HG.out.fr0 HF2.out)).mono ?_
      rintro e w3 ⟨rfl, hf⟩
      have HF3 := Lib.hid (HF2.out.trans0 hf)
      clear hf
      go_wp2_with fail
      refine (wrings_any _ odd1 w3 (HG.out.fr0 HF3.out)).mono ?_
      rintro e w4 ⟨rfl, hf⟩
      have HF4 := Lib.hid (HF3.out.trans0 hf)
      clear hf
      go_wp2_with fail
      refine (wparts_any _ odd1 w4 (HG.out.fr0 HF4.out)).mono ?_
      rintro e w5 ⟨rfl, hf⟩
      have HF5 := Lib.hid (HF4.out.trans0 hf)
      clear hf
      go_wp2_with fail
      refine (wsort_any _ odd1 w5 (HG.out.fr0 HF5.out)).mono ?_
      rintro e w6 ⟨rfl, hf⟩
      have HF6 := Lib.hid (HF5.out.trans0 hf)
      clear hf
      go_wp2_with fail
      refine (wany_any _ [] _ w6 (GraphW.none w6)).mono ?_
      rintro e w7 ⟨rfl, hf⟩
      have HF7 := Lib.hid (HF6.out.trans0 hf)
      clear hf
      go_wp2_with fail
      refine (wrings_any _ [] w7 (GraphW.none w7)).mono ?_
      rintro e w8 ⟨rfl, hf⟩
      have HF8 := Lib.hid (HF7.out.trans0 hf)
      clear hf
      go_wp2_with fail
      refine (wparts_any _ [] w8 (GraphW.none w8)).mono ?_
      rintro e w9 ⟨rfl, hf⟩
      have HF9 := Lib.hid (HF8.out.trans0 hf)
      clear hf
      go_wp2_with fail
      refine (wsort_any _ [] w9 (GraphW.none w9)).mono ?_
      rintro e w10 ⟨rfl, hf⟩
      have HF10 := Lib.hid (HF9.out.trans0 hf)
      clear hf
      go_wp2_with fail
      refine (works_any w10).mono ?_
      rintro e w11 ⟨rfl, hf⟩
      have HF11 := Lib.hid (HF10.out.trans0 hf)
      clear hf
      go_wp2_with fail
      go_ret
      exact ⟨rfl, HFW.out.trans0 HF11.out⟩
end Go.Proofs.Ytkeiphmhckkniaa
