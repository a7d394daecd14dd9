/-
  Walk of WaitsTurned: it answers true.
  No condition but sizes.
-/
import Derived.Test.YtkeiphmhckkniaaWtWorks
import Derived.Test.YtkeiphmhckkniaaWtSees
namespace Go.Proofs.Ytkeiphmhckkniaa
open Go Go.RowKit

theorem farOk_of {gv : Value} {G : List (List Int)} {s : Nat} {w : World} (h : GraphAt w gv G) (hs : s < G.length) (hl : G.length ≤ 1000) : ∃ F, FarOk G s F := by
  obtain ⟨e, w', fr, ⟨F, b, c, hF, _⟩, _⟩ := far_any gv G s w h hs hl []
  exact ⟨F, hF⟩
theorem partsP_rows (G : List (List Int)) (hl : G.length ≤ 1000) : ∀ xs ∈ partsP G, xs.length ≤ 1000000 := fun xs hx => by
  unfold partsP partsTo at hx
  obtain ⟨i, _, rfl⟩ := List.mem_map.1 hx
  have := partOf_len G i
  rw [ints_len]; omega
theorem tput_in {n i q : Nat} {B : List (List Int)} (hq : q < n) : tput n i B (q : Int) = B.set q (B.getD q [] ++ [(i : Int)]) := by
  unfold tput
  rw [if_pos ⟨by omega, by omega⟩]
  unfold bput
  rw [Int.toNat_natCast]
theorem tput_out {n i : Nat} {B : List (List Int)} {y : Int} (h : y < 0 ∨ (n : Int) ≤ y) : tput n i B y = B := by
  unfold tput
  rw [if_neg (by omega)]
set_option maxRecDepth 100000 in
set_option maxHeartbeats 2000000 in
theorem wturn_any (gv : Value) (G : List (List Int)) (w : World) (h : GraphW w gv G) :
    Calls Try.prog 7 #[gv] w fun e w' => e = .returned (.bool true) ∧ Fr w w' Nil := by
  obtain ⟨ir, hir, hr0, hr1, hr2⟩ := info_parts (P := Try.prog) (e := 27) (z := .slice none 0 0) (size := 1) (bytes := 24) (by kernel_rfl)
  obtain ⟨ga, gc, rfl⟩ := h.shape
  have HW := Lib.hid h
  clear h
  go_enter Try.func7, Try.ntmps7
  go_wp2_with fail
  refine (few_any _ G 20 w HW.out (by decide)).mono ?_
  rintro e w0 ⟨rfl, rfl⟩
  cases hfew : fewP G 20 with
  | false =>
    clear hfew
    go_wp2_with fail
    refine (works_any w).mono ?_
    rintro e w1 ⟨rfl, hf⟩
    have HF := Lib.hid hf
    clear hf
    go_wp2_with fail
    go_ret
    exact ⟨rfl, HF.out⟩
  | true =>
    have HG := Lib.hid (HW.out.at hfew (by decide))
    have hl := (fewP_true hfew).1
    have HRB := Lib.hid (fewP_true hfew).2
    have Hb2 : Hid (G.length ≤ maxLen) := by
      have : G.length ≤ maxLen := by unfold maxLen; omega
      exact this
    obtain ⟨w1, hrun, hown, hgr⟩ := run_make_full (P := Try.prog) w 0 23 27 ir (.slice none 0 0) 1 Try.underlying23 hir hr0 hr1 .i64 .i64 G.length (by rw [hr2]; omega) Hb2.out (Nat.zero_le _)
    have HL0 := Lib.hid ((Lies.nil (Fr.refl w Nil)).gmade rfl hown ((Fr.refl w Nil).grown hgr (fun k hk => by cases hk)))
    clear hfew hown hgr
    go_wp2_with fail
    generalize w.heap.size = bb at HL0 ⊢
    clear hrun
    go_loopw [4] (fun vi wr => ∃ m : Nat, m ≤ G.length ∧ vi = .int .i64 m ∧ Lies w wr [gT (.slice (some ⟨bb, 0, none⟩) G.length G.length) (turnP G m)]) (fun vi _ => G.length - (intOf vi).toNat)
    case atStart => exact ⟨0, by omega, rfl, HL0.out⟩
    case round =>
      obtain ⟨m, hm, rfl, hL⟩ := hrel
      have HL := Lib.hid hL
      clear hL HL0
      by_cases hlt : m < G.length
      · have hml : (m : Int) < (G.length : Int) := by omega
        have hgi := List.getElem?_eq_getElem hlt
        have hgd : G.getD m [] = G[m] := by rw [List.getD_eq_getElem?_getD, hgi]; rfl
        obtain ⟨gb, go, gcap, hv, hc⟩ := HG.out.form (by omega)
        simp only [Value.slice.injEq, true_and] at hv
        obtain ⟨rfl, rfl⟩ := hv
        obtain ⟨u, hu, hxu, hxl⟩ := hc m _ hgi
        have hxb := HRB.out _ (List.mem_of_getElem? hgi)
        have HTS := turnP_succ G m
        rw [hgd] at HTS
        have HTR := Lib.hid (turnP_row HRB.out m)
        generalize G[m] = xs at *
        obtain ⟨ua, uc, rfl⟩ := hxu.shape
        have HU := Lib.hid hu
        have HXU := Lib.hid hxu
        have HTS := Lib.hid HTS
        clear hgi hc hu hxu hgd
        go_wp2_with fail
        go_loopw [5] (fun vk wq => ∃ k : Nat, k ≤ xs.length ∧ vk = .int .i64 (k : Int) ∧ Lies w wq [gT (.slice (some ⟨bb, 0, none⟩) G.length G.length) (trow G.length m (xs.take k) (turnP G m))]) (fun vk _ => xs.length - (intOf vk).toNat)
        case atStart => exact ⟨0, by omega, rfl, HL.out⟩
        case round =>
          obtain ⟨k, hk, rfl, hL2⟩ := hrel
          have HL2 := Lib.hid hL2
          clear hL2 HL
          have q0 := HL2.out.fr.cell HU.out (fun h => h)
          by_cases hlt3 : k < xs.length
          · have hkl : (k : Int) < (xs.length : Int) := by omega
            obtain ⟨xb, xo, xc2, hv2, hxc⟩ := HXU.out.form (by omega)
            simp only [Value.slice.injEq, true_and] at hv2
            obtain ⟨rfl, rfl⟩ := hv2
            have hyk := List.getElem?_eq_getElem hlt3
            have q1 := HL2.out.fr.cell (hxc k _ hyk) (fun h => h)
            have HTK : Hid (trow G.length m (xs.take (k + 1)) (turnP G m) = tput G.length m (trow G.length m (xs.take k) (turnP G m)) xs[k]) := by
              have : trow G.length m (xs.take (k + 1)) (turnP G m) = tput G.length m (trow G.length m (xs.take k) (turnP G m)) xs[k] := by rw [List.take_succ_eq_append_getElem hlt3, trow_snoc]
              exact this
            have HTL : Hid ((trow G.length m (xs.take k) (turnP G m)).length = G.length ∧ ∀ j, ((trow G.length m (xs.take k) (turnP G m)).getD j []).length ≤ 100000) := by
              refine Lib.hid ⟨by rw [trow_len, turnP_len], fun j => ?_⟩
              have h1 := trow_row (n := G.length) (i := m) (xs.take k) HTR.out j
              rw [List.length_take] at h1
              have h2 : m * (20 + 10) ≤ 20 * (20 + 10) := Nat.mul_le_mul_right _ (by omega)
              omega
            generalize xs[k] = y at *
            generalize trow G.length m (xs.take k) (turnP G m) = B at *
            clear hxc hyk
            by_cases hy0 : y < 0
            · have d1 : ¬ (0 ≤ y) := by omega
              have HE := Lib.hid (HTK.out.trans (tput_out (.inl hy0)))
              go_wp2_with fail
              go_roundw
              case rel => exact ⟨k + 1, by omega, by go_num, by rw [HE.out]; exact HL2.out⟩
              case measure => simp [intOf]; omega
            · obtain ⟨q, rfl⟩ : ∃ q : Nat, y = (q : Int) := ⟨y.toNat, by omega⟩
              by_cases hqn : G.length ≤ q
              · have hqq : (G.length : Int) ≤ (q : Int) := by omega
                have HE := Lib.hid (HTK.out.trans (tput_out (.inr hqq)))
                go_wp2_with fail
                go_roundw
                case rel => exact ⟨k + 1, by omega, by go_num, by rw [HE.out]; exact HL2.out⟩
                case measure => simp [intOf]; omega
              · have hql : q < G.length := by omega
                have hqq : (q : Int) < (G.length : Int) := by omega
                have HE := Lib.hid (HTK.out.trans (tput_in hql))
                have hbq : B[q]? = some (B.getD q []) := by rw [List.getD_eq_getElem?_getD, List.getElem?_eq_getElem (by rw [HTL.out.1]; exact hql)]; rfl
                have hbl := HTL.out.2 q
                generalize B.getD q [] = ys at *
                obtain ⟨ya, yc, q2, -, f2⟩ := HL2.out.gcell 0 rfl q ys hbq
                have f0 := (Fr.refl wr Nil).alloc (.cells #[.int .i64 (m : Int)] 3)
                have q3 := f0.cell q2 (fun h => h)
                have HK0 := Lib.hid ((LK.start HL2.out 0).newBk 3 #[.int .i64 (m : Int)])
                have HBQ := Lib.hid hbq
                have HQ3 := Lib.hid q3
                have HBL := Lib.hid hbl
                clear f0 hbq hbl q3 HTK
                go_wp2_with (at_builtin; refine wpList_plain rfl fun K hK => ?_; refine wp_gapp _ _ rfl HK0.out rfl rfl 0 rfl HBQ.out HQ3.out 1 rfl HBL.out ?_; intro a6 c6 w6 hk6 q6 f6 hk7; have HK7 := Lib.hid hk7; refine hK _ _ ?_; clear hK hk6 hk7)
                have h8 := HK7.out.1.take 1
                have HL8 := Lib.hid h8
                clear h8 HK7
                go_roundw
                case rel => exact ⟨k + 1, by omega, by go_num, by rw [HE.out]; exact HL8.out⟩
                case measure => simp [intOf]; omega
          · obtain rfl : k = xs.length := by omega
            rw [List.take_length] at HL2
            rw [← HTS.out] at HL2
            go_wp2_with fail
            go_roundw
            case rel => exact ⟨m + 1, by omega, by go_num, HL2.out⟩
            case measure => simp [intOf]; omega
      · obtain rfl : m = G.length := by omega
        obtain ⟨W1, hW1⟩ : ∃ W1 : World, W1 = wr := ⟨_, rfl⟩
        subst hW1
        have HT := Lib.hid (turn_is G)
        have HB : Hid (GraphAt W1 (.slice (some ⟨bb, 0, none⟩) G.length G.length) (turnP G G.length)) := by
          have := HL.out.graph 0 rfl fun xs hx => by
            obtain ⟨j, hj, rfl⟩ := List.mem_iff_getElem.1 hx
            have h1 := turnP_row HRB.out G.length j
            rw [List.getD_eq_getElem?_getD, List.getElem?_eq_getElem hj] at h1
            have h2 : G.length * (20 + 10) ≤ 20 * (20 + 10) := Nat.mul_le_mul_right _ (by omega)
            simp only [Option.getD_some] at h1
            omega
          exact this
        have HGW := Lib.hid (HG.out.fr0 HL.out.fr)
        have HFW := Lib.hid HL.out.fr
        generalize hB : turnP G G.length = B at *
        clear hB HL HRB
        have hbl : B.length = G.length := HT.out.len
        have HBLN := Lib.hid hbl
        clear hbl
        go_wp2_with fail
        go_loopw [7] (fun va wr => ∃ a : Nat, a ≤ G.length ∧ va = .int .i64 (a : Int) ∧ Fr W1 wr Nil) (fun va _ => G.length - (intOf va).toNat)
        case atStart => exact ⟨0, by omega, rfl, Fr.refl _ _⟩
        case round =>
          obtain ⟨a, han, rfl, hf⟩ := hrel
          have HF := Lib.hid hf
          clear hf
          by_cases hla : a < G.length
          · have hal : (a : Int) < (G.length : Int) := by omega
            go_wp2_with fail
            go_loopw [8] (fun vb wr => ∃ b : Nat, b ≤ G.length ∧ vb = .int .i64 (b : Int) ∧ Fr W1 wr Nil) (fun vb _ => G.length - (intOf vb).toNat)
            case atStart => exact ⟨0, by omega, rfl, HF.out⟩
            case round =>
              obtain ⟨b, hbn, rfl, hf⟩ := hrel
              have HF := Lib.hid hf
              clear hf
              by_cases hlb : b < G.length
              · have hbl : (b : Int) < (G.length : Int) := by omega
                go_wp2_with fail
                refine (reach_in _ G a wr (HGW.out.fr0 HF.out) hla (by omega)).mono ?_
                rintro e w2 ⟨xa, xc, rfl, ho2, -, hf2⟩
                have HF2 := Lib.hid (HF.out.trans0 hf2)
                have HO2 := Lib.hid ho2.at
                clear ho2 hf2
                go_wp2_with fail
                refine (has_any _ (reachP G a) (b : Int) w2 HO2.out (by have := reachP_len G a; omega)).mono ?_
                rintro e w3 ⟨rfl, rfl⟩
                rw [contains_reach]
                go_wp2_with fail
                refine (reach_in _ B b w2 (HB.out.fr0 HF2.out) (by rw [HBLN.out]; exact hlb) (by rw [HBLN.out]; omega)).mono ?_
                rintro e w4 ⟨ya, yc, rfl, ho4, -, hf4⟩
                have HF4 := Lib.hid (HF2.out.trans0 hf4)
                have HO4 := Lib.hid ho4.at
                clear ho4 hf4
                go_wp2_with fail
                refine (has_any _ (reachP B b) (a : Int) w4 HO4.out (by have := reachP_len B b; have := HBLN.out; omega)).mono ?_
                rintro e w5 ⟨rfl, rfl⟩
                rw [contains_reach, HT.out.way]
                generalize wayP G a b = d
                cases d
                all_goals
                  go_wp2_with fail
                  go_roundw
                  case rel => exact ⟨b + 1, by omega, by go_num, HF4.out⟩
                  case measure => simp [intOf]; omega
              · obtain rfl : b = G.length := by omega
                obtain ⟨F1, hF1⟩ := farOk_of HGW.out hla (by omega)
                obtain ⟨F2, hF2⟩ := farOk_of HB.out (by rw [HBLN.out]; exact hla) (by rw [HBLN.out]; omega)
                have HSZ := Lib.hid (HT.out.size hla hF1 hF2)
                clear hF1 hF2
                go_wp2_with fail
                refine (ring_in _ G a wr (HGW.out.fr0 HF.out) hla (by omega)).mono ?_
                rintro e w2 ⟨xa, xc, rfl, -, -, hf2⟩
                have HF2 := Lib.hid (HF.out.trans0 hf2)
                clear hf2
                go_wp2_with fail
                refine (ring_in _ B a w2 (HB.out.fr0 HF2.out) (by rw [HBLN.out]; exact hla) (by rw [HBLN.out]; omega)).mono ?_
                rintro e w4 ⟨ya, yc, rfl, -, -, hf4⟩
                have HF4 := Lib.hid (HF2.out.trans0 hf4)
                clear hf4
                rw [ints_len, ints_len, HSZ.out]
                go_wp2_with fail
                go_roundw
                case rel => exact ⟨a + 1, by omega, by go_num, HF4.out⟩
                case measure => simp [intOf]; omega
          · obtain rfl : a = G.length := by omega
            have HPE := Lib.hid HT.out.parts
            have HOE := Lib.hid HT.out.ok
            have HPR := Lib.hid (partsP_rows G (by omega))
            have hpl := partsTo_len G G.length
            go_wp2_with fail
            refine (parts_any _ G wr (HGW.out.fr0 HF.out) (by omega)).mono ?_
            rintro e w2 ⟨v2, rfl, hL2⟩
            have HF2 := Lib.hid (HF.out.trans0 hL2.fr)
            have HG2 := Lib.hid (hL2.graph 0 rfl HPR.out)
            clear hL2
            go_wp2_with fail
            refine (parts_any _ B w2 (HB.out.fr0 HF2.out) (by rw [HBLN.out]; omega)).mono ?_
            rintro e w3 ⟨v3, rfl, hL3⟩
            rw [HPE.out] at hL3
            have HF3 := Lib.hid (HF2.out.trans0 hL3.fr)
            have HG3 := Lib.hid (hL3.graph 0 rfl HPR.out)
            have HG23 := Lib.hid (HG2.out.fr0 hL3.fr)
            clear hL3
            go_wp2_with fail
            refine (sameRows_any _ _ (partsP G) (partsP G) w3 HG23.out HG3.out (by unfold partsP; omega) (by unfold partsP; omega)).mono ?_
            rintro e w4 ⟨rfl, hf4⟩
            rw [decide_eq_true rfl]
            have HF4 := Lib.hid (HF3.out.trans0 hf4)
            clear hf4
            go_wp2_with fail
            refine (acyclic_any _ G w4 (HGW.out.fr0 HF4.out) (by omega)).mono ?_
            rintro e w5 ⟨rfl, hf5⟩
            have HF5 := Lib.hid (HF4.out.trans0 hf5)
            clear hf5
            go_wp2_with fail
            refine (acyclic_any _ B w5 (HB.out.fr0 HF5.out) (by rw [HBLN.out]; omega)).mono ?_
            rintro e w6 ⟨rfl, hf6⟩
            rw [HOE.out]
            have HF6 := Lib.hid (HF5.out.trans0 hf6)
            clear hf6
            generalize okP G [] = d
            cases d
            all_goals
              go_wp2_with fail
              refine (works_any w6).mono ?_
              rintro e w7 ⟨rfl, hf7⟩
              have HF7 := Lib.hid (HF6.out.trans0 hf7)
              clear hf7
              go_wp2_with fail
              go_ret
              exact ⟨rfl, HFW.out.trans0 HF7.out⟩
end Go.Proofs.Ytkeiphmhckkniaa
