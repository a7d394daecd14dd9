/-
  Walks of the document's Parts and Sorted.
  No condition but sizes.
-/
import Derived.Test.YtkeiphmhckkniaaWtDoc
import Derived.Test.YtkeiphmhckkniaaWtParts
namespace Go.Proofs.Ytkeiphmhckkniaa
open Go Go.RowKit

set_option maxRecDepth 100000 in
set_option maxHeartbeats 4000000 in
theorem dparts_any (gv : Value) (G : List (List Int)) (w : World) (h : GraphAt w gv G) (hl : G.length ≤ 1000) :
    Calls Try.prog 22 #[gv] w (RowsRet (partsP G) w) := by
  obtain ⟨ib, hib, hz0, hz1, hz2⟩ := info_parts (P := Try.prog) (e := 4) (z := .bool false) (size := 1) (bytes := 1) (by kernel_rfl)
  have hrl := h
  obtain ⟨ga, gcap, rfl⟩ := h.shape
  have HG := Lib.hid hrl
  have Hb2 : Hid (G.length ≤ maxLen) := by
    have : G.length ≤ maxLen := by unfold maxLen; omega
    exact this
  obtain ⟨w1, hrun, hown, hgr⟩ := run_make_full (P := Try.prog) w 0 51 4 ib (.bool false) 1 Try.underlying51 hib hz0 hz1 .i64 .i64 G.length (by rw [hz2]; omega) Hb2.out (Nat.zero_le _)
  have HB0 : OwnBools w1 w.heap.size G.length G.length (List.replicate G.length false) := by rw [← thOf_nil]; exact own_made hown
  have HL0 := Lib.hid (((Lies.nil (Fr.refl w Nil)).add (boT w.heap.size G.length (List.replicate G.length false)) (S := fun k => k = w.heap.size) ⟨HB0, fun _ => Iff.rfl⟩ (fun k hk => by omega) ((Fr.refl w Nil).grown hgr (fun k hk => by cases hk))).gnil)
  clear h hrl hown hgr HB0
  go_enter Try.func22, Try.ntmps22
  go_wp2_with fail
  generalize w.heap.size = db at HL0 ⊢
  clear hrun
  go_loopw [3, 5] (fun vo vi wr => ∃ (m : Nat) (d : List Bool), m ≤ G.length ∧ vi = .int .i64 m ∧ MarkOk G m d ∧ Lies w wr [boT db G.length d, gT vo (partsTo G m)]) (fun _ vi _ => G.length - (intOf vi).toNat)
  case atStart => exact ⟨0, _, by omega, rfl, MarkOk.start G, HL0.out⟩
  case round =>
    obtain ⟨m, d, hm, rfl, hmk, hL⟩ := hrel
    have HL := Lib.hid hL
    have HMK := Lib.hid hmk
    clear hL hmk HL0
    by_cases hlt2 : m < G.length
    · have hml : (m : Int) < (G.length : Int) := by omega
      have q7 := (HL.out.bools 0 rfl).cell HMK.out.1 m hlt2
      have hdm : d.getD m false = doneB G m m := HMK.out.2 m (Nat.le_refl _) hlt2
      rw [hdm] at q7
      clear hdm
      cases hd : doneB G m m with
      | true =>
        rw [hd] at q7
        have HMK2 := Lib.hid (HMK.out.skip hd)
        have HL2 := HL.out
        rw [← partsTo_skip hd] at HL2
        have HL2 := Lib.hid HL2
        clear hd
        go_wp2_with fail
        go_roundw
        case rel => exact ⟨m + 1, d, by omega, by go_num, HMK2.out, HL2.out⟩
        case measure => simp [intOf]; omega
      | false =>
        rw [hd] at q7
        have HD := Lib.hid hd
        clear hd
        have HL2 := Lib.hid (HL.out.addRow (v := .slice none 0 0) (xs := []) (World.ownsRow_nil _ _ _ _) (fun _ h => by cases h) (Fr.refl _ _))
        go_wp2_with fail
        clear q7
        go_loopw [6, 7] (fun vp vk wq => ∃ (k : Nat) (d' : List Bool), k ≤ G.length ∧ vk = .int .i64 k ∧ MarkTo G m k d' ∧ Lies w wq [boT db G.length d', gT u3 (partsTo G m), owT vp (ints (partTo G m k))]) (fun _ vk _ => G.length - (intOf vk).toNat)
        case atStart => exact ⟨0, d, by omega, rfl, MarkTo.start HMK.out, HL2.out⟩
        case round =>
          obtain ⟨k, d', hk, rfl, hmi, hL3⟩ := hrel
          have HL3 := Lib.hid hL3
          have HMI3 := Lib.hid hmi
          clear hL3 hmi HL2
          by_cases hlt3 : k < G.length
          · have hkl : (k : Int) < (G.length : Int) := by omega
            by_cases hkm : k = m
            · have HE : Hid (eqvB G m k = true) := by
                have : eqvB G m k = true := eqvB_iff.2 (.inl hkm.symm)
                exact this
              have h1 : ((k : Int) == (m : Int)) = true := by simp [hkm]
              clear hkm
              have HMP := Lib.hid (HMI3.out.put hlt3 HE.out)
              have HFI := Lib.hid (partTo_put HE.out)
              have HLN : Hid ((ints (partTo G m k)).length ≤ 100000) := by
                have h1 := partTo_len G m k
                have : (ints (partTo G m k)).length ≤ 100000 := by rw [ints_len]; omega
                exact this
              have HK0 := Lib.hid ((LK.start HL3.out 0).newBk 3 #[.int .i64 (k : Int)])
              go_wp2_with (at_builtin; refine wpList_plain rfl fun K hK => ?_; refine wp_oapp _ _ rfl HK0.out rfl rfl 2 rfl 3 rfl HLN.out ?_; intro a6 c6 w6 hk6; have HK6 := Lib.hid hk6; have q66 := (hk6.1.bools 0 rfl).cell HMI3.out.1 k hlt3; have f66 := (hk6.1.bools 0 rfl).free k; refine hK _ _ ?_; clear hK hk6)
              have h7 := (HK6.out.1.take 3).storedB 0 rfl k true
              have e5 : ints (partTo G m k) ++ [(k : Int)] = ints (partTo G m (k + 1)) := by rw [HFI.out]; simp [ints]
              rw [e5] at h7
              have HL7 := Lib.hid h7
              clear h7 e5
              go_roundw
              case rel => exact ⟨k + 1, d'.set k true, by omega, by go_num, HMP.out, HL7.out⟩
              case measure => simp [intOf]; omega
            · have h1 : ((k : Int) == (m : Int)) = false := by simp; omega
              have HNE := Lib.hid (decide_eq_false (fun e : m = k => hkm e.symm))
              clear hkm
              go_wp2_with fail
              refine (way_any _ G m k wr (HG.out.fr0 HL3.out.fr) hlt3 (by omega)).mono ?_
              rintro e w5 ⟨rfl, hf5⟩
              have HL5 := Lib.hid (HL3.out.fr0 hf5)
              clear hf5
              cases hw1 : wayP G m k with
              | false =>
                have HE : Hid (eqvB G m k = false) := by
                  have : eqvB G m k = false := by unfold eqvB; rw [HNE.out, hw1]; rfl
                  exact this
                clear hw1
                have HMP := Lib.hid (HMI3.out.skip HE.out)
                have h7 := HL5.out
                rw [← partTo_skip HE.out] at h7
                have HL7 := Lib.hid h7
                clear h7
                go_wp2_with fail
                go_roundw
                case rel => exact ⟨k + 1, d', by omega, by go_num, HMP.out, HL7.out⟩
                case measure => simp [intOf]; omega
              | true =>
                have HW1 := Lib.hid hw1
                clear hw1
                go_wp2_with fail
                refine (way_any _ G k m w5 (HG.out.fr0 HL5.out.fr) hlt2 (by omega)).mono ?_
                rintro e w8 ⟨rfl, hf8⟩
                have HL8 := Lib.hid (HL5.out.fr0 hf8)
                clear hf8
                cases hw2 : wayP G k m with
                | false =>
                  have HE : Hid (eqvB G m k = false) := by
                    have : eqvB G m k = false := by unfold eqvB; rw [HNE.out, HW1.out, hw2]; rfl
                    exact this
                  clear hw2
                  have HMP := Lib.hid (HMI3.out.skip HE.out)
                  have h7 := HL8.out
                  rw [← partTo_skip HE.out] at h7
                  have HL7 := Lib.hid h7
                  clear h7
                  go_wp2_with fail
                  go_roundw
                  case rel => exact ⟨k + 1, d', by omega, by go_num, HMP.out, HL7.out⟩
                  case measure => simp [intOf]; omega
                | true =>
                  have HE : Hid (eqvB G m k = true) := by
                    have : eqvB G m k = true := by unfold eqvB; rw [HNE.out, HW1.out, hw2]; rfl
                    exact this
                  clear hw2
                  have HMP := Lib.hid (HMI3.out.put hlt3 HE.out)
                  have HFI := Lib.hid (partTo_put HE.out)
                  have HLN : Hid ((ints (partTo G m k)).length ≤ 100000) := by
                    have h1 := partTo_len G m k
                    have : (ints (partTo G m k)).length ≤ 100000 := by rw [ints_len]; omega
                    exact this
                  have HK0 := Lib.hid ((LK.start HL8.out 0).newBk 3 #[.int .i64 (k : Int)])
                  go_wp2_with (at_builtin; refine wpList_plain rfl fun K hK => ?_; refine wp_oapp _ _ rfl HK0.out rfl rfl 2 rfl 3 rfl HLN.out ?_; intro a6 c6 w6 hk6; have HK6 := Lib.hid hk6; have q66 := (hk6.1.bools 0 rfl).cell HMI3.out.1 k hlt3; have f66 := (hk6.1.bools 0 rfl).free k; refine hK _ _ ?_; clear hK hk6)
                  have h7 := (HK6.out.1.take 3).storedB 0 rfl k true
                  have e5 : ints (partTo G m k) ++ [(k : Int)] = ints (partTo G m (k + 1)) := by rw [HFI.out]; simp [ints]
                  rw [e5] at h7
                  have HL7 := Lib.hid h7
                  clear h7 e5
                  go_roundw
                  case rel => exact ⟨k + 1, d'.set k true, by omega, by go_num, HMP.out, HL7.out⟩
                  case measure => simp [intOf]; omega
          · obtain rfl : k = G.length := by omega
            rw [partTo_all] at HL3
            have HMK4 := Lib.hid HMI3.out.done
            obtain ⟨pa, pc, rfl⟩ := (HL3.out.row 2 rfl).shape
            have HL4 := Lib.hid (HL3.out.newBk 27 #[.slice pa (ints (partOf G m)).length pc])
            have HPL : Hid ((partsTo G m).length ≤ 100000) := by
              have := partsTo_len G m
              have : (partsTo G m).length ≤ 100000 := by omega
              exact this
            go_wp2_with (at_builtin; refine wpList_plain rfl fun K hK => ?_; refine wp_gsnoc _ _ rfl HL4.out rfl rfl 1 2 3 (by decide) rfl rfl rfl HPL.out ?_; intro a6 c6 w6 hk6; have HK6 := Lib.hid hk6; refine hK _ _ ?_; clear hK hk6)
            have HL7 := HK6.out
            rw [← partsTo_take HD.out] at HL7
            have HL7 := Lib.hid HL7
            clear HK6
            go_roundw
            case rel => exact ⟨m + 1, _, by omega, by go_num, HMK4.out, HL7.out⟩
            case measure => simp [intOf]; omega
    · obtain rfl : m = G.length := by omega
      have HL5 := Lib.hid ((HL.out.pull 0 1 _ (by decide) rfl).take 1)
      go_wp2_with fail
      go_ret
      exact ⟨_, rfl, HL5.out⟩
end Go.Proofs.Ytkeiphmhckkniaa
