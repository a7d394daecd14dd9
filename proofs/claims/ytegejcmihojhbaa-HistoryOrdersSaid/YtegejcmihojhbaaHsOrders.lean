/-
  The walk of HistoryOrders: it answers true.
  No condition.
-/
import Derived.Test.YtegejcmihojhbaaHsWorks
import Derived.Test.YtegejcmihojhbaaHsIs
import Derived.Test.YtegejcmihojhbaaHsRefIs
import Derived.Test.YtegejcmihojhbaaHsRefOrder
import Derived.Test.YtegejcmihojhbaaHsAcyc
import Derived.Test.YtegejcmihojhbaaHsOf
namespace Go.Proofs.Ytegejcmihojhbaa
open Go Go.RowKit

theorem fr0i {w w' : World} {v : Value} {xs : List Int} (h : IntsAt w v xs) (hf : Fr w w' Nil) : IntsAt w' v xs := h.fr hf fun _ _ h => h
theorem graphP_len (L : List (List Int)) : (graphP L).length = L.length := by simp [graphP]

set_option maxRecDepth 100000 in
set_option maxHeartbeats 2000000 in
theorem orders_main (v pv ov : Value) (L : List (List Int)) (picks other : List Int) (w : World) (h : RowsU8At w v L) (hp : IntsAt w pv picks) (ho : IntsAt w ov other) (hf : fewB L = true) (hpl : picks.length ≤ 100) (hol : other.length ≤ 100) :
    Calls Try.prog 4 #[v, pv, ov] w fun e w' => e = .returned (.bool true) ∧ Fr w w' Nil := by
  obtain ⟨pa, pcap, rfl⟩ := hp.shape
  obtain ⟨oa, ocap, rfl⟩ := ho.shape
  have H := Lib.hid h
  have HP := Lib.hid hp
  have HO := Lib.hid ho
  obtain ⟨hl, hl2⟩ := fewB_small hf
  have HFB := Lib.hid hf
  have HL2 := Lib.hid hl2
  clear h hp ho hf hl2
  go_enter Try.func4, Try.ntmps4
  go_wp2_with fail
  refine (few_any v L w H.out).mono ?_
  rintro e w0 ⟨rfl, rfl⟩
  rw [HFB.out]
  go_wp2_with fail
  refine (graph_any v L _ H.out hl HL2.out).mono ?_
  rintro e w1 ⟨ga, gcap, ha, hcap, rfl, hg, hh, hf1⟩
  have hgl := graphP_len L
  rw [← hgl]
  rw [← hgl] at hg hh hl
  generalize graphP L = G at *
  have HG := Lib.hid hg
  have HH := Lib.hid hh
  have HF := Lib.hid hf1
  clear hg hh hf1 hgl HL2 HFB H
  go_wp2_with fail
  refine (order_any _ _ G picks _ HG.out (fr0i HP.out HF.out) (by omega) (by omega)).mono ?_
  rintro e w2 ⟨a, acap, rfl, hoa, _, hf2⟩
  have HOA := Lib.hid hoa.at
  have HG2 := Lib.hid (HG.out.fr0 hf2)
  have HH2 := Lib.hid (HH.out.fr0 hf2)
  have HF2 := Lib.hid (HF.out.trans0 hf2)
  clear hoa hf2 HG HH HF
  go_wp2_with fail
  refine (rorder_any _ _ G picks _ HH2.out (fr0i HP.out HF2.out) (by omega) (by omega)).mono ?_
  rintro e w3 ⟨b, bcap, rfl, hob, _, hf3⟩
  have HOB := Lib.hid hob.at
  have HOA3 := Lib.hid (fr0i HOA.out hf3)
  have HG3 := Lib.hid (HG2.out.fr0 hf3)
  have HH3 := Lib.hid (HH2.out.fr0 hf3)
  have HF3 := Lib.hid (HF2.out.trans0 hf3)
  clear hob hf3 HG2 HH2 HF2 HOA
  have hll : (ordL G picks).length ≤ G.length := by
    unfold ordL
    split
    · exact (orderP_chain G picks).2.len
    · simp
  have hac := ok_acyc G picks
  have hIP := isP_isR G (ints (ordL G picks))
  have hIO := isP_isR G other
  have hcheck : isP G (ints (ordL G picks)) = (okP G picks && decide ((ordL G picks).length = G.length)) := by
    cases hok : okP G picks with
    | true =>
      have h1 : (orderP G picks).length = G.length := of_decide_eq_true hok
      have : ordL G picks = orderP G picks := by unfold ordL; rw [if_pos hok]
      rw [this, h1]
      have h2 := order_is h1
      unfold ints
      rw [h2]; simp
    | false =>
      have : ordL G picks = [] := by unfold ordL; rw [hok]; rfl
      rw [this]
      have h1 : isP G (ints []) = decide (G.length = 0) := is_nil
      rw [h1]
      simp only [Bool.false_and, decide_eq_false_iff_not]
      intro h0
      have : okP G picks = true := by
        unfold okP
        rw [decide_eq_true_eq]
        have := (orderP_chain G picks).2.len
        omega
      rw [this] at hok; cases hok
  have hfin : okP G picks = true → isP G (ints (ordL G picks)) = true := by
    intro hok
    rw [hcheck, hok]
    have h1 : (orderP G picks).length = G.length := of_decide_eq_true hok
    have : ordL G picks = orderP G picks := by unfold ordL; rw [if_pos hok]
    rw [this, h1]; simp
  have HAC := Lib.hid hac
  have HIP := Lib.hid hIP
  have HIO := Lib.hid hIO
  have HCH := Lib.hid hcheck
  have HFI := Lib.hid hfin
  clear hac hIP hIO hcheck hfin
  have hol2 := ints_len (ordL G picks)
  generalize ordL G picks = od at *
  generalize okP G picks = ok at *
  have hbn : ∀ b : Bool, (b != b) = false := fun b => by cases b <;> rfl
  have hbn1 := hbn ok
  go_wp2_with fail
  refine (same_any _ _ (ints od) (ints od) _ ?_ ?_ (by omega)).mono ?_
  · exact HOA3.out
  · exact HOB.out
  rintro e w4 ⟨rfl, hf4⟩
  rw [show sameB (ints od) (ints od) = true by simp [sameB]]
  have HOA4 := Lib.hid (fr0i HOA3.out hf4)
  have HG4 := Lib.hid (HG3.out.fr0 hf4)
  have HH4 := Lib.hid (HH3.out.fr0 hf4)
  have HF4 := Lib.hid (HF3.out.trans0 hf4)
  clear hf4 HG3 HH3 HF3 HOA3 HOB
  go_wp2_with fail
  refine (acyc_any _ G _ HH4.out (by omega)).mono ?_
  rintro e w5 ⟨rfl, hf5⟩
  rw [← HAC.out]
  have HOA5 := Lib.hid (fr0i HOA4.out hf5)
  have HG5 := Lib.hid (HG4.out.fr0 hf5)
  have HH5 := Lib.hid (HH4.out.fr0 hf5)
  have HF5 := Lib.hid (HF4.out.trans0 hf5)
  clear hf5 HG4 HH4 HF4 HOA4 HAC
  go_wp2_with fail
  refine (is_any _ _ G (ints od) _ HG5.out ?_ (by omega)).mono ?_
  · exact HOA5.out
  rintro e w6 ⟨rfl, hf6⟩
  have HOA6 := Lib.hid (fr0i HOA5.out hf6)
  have HG6 := Lib.hid (HG5.out.fr0 hf6)
  have HH6 := Lib.hid (HH5.out.fr0 hf6)
  have HF6 := Lib.hid (HF5.out.trans0 hf6)
  clear hf6 HG5 HH5 HF5 HOA5
  have hCH := HCH.out
  cases ok with
  | false =>
    rw [show isP G (ints od) = false by rw [hCH]; rfl]
    clear hCH
    go_wp2_with fail
    refine (is_any _ _ G other _ HG6.out ?_ (by omega)).mono ?_
    · exact fr0i HO.out HF6.out
    rintro e w7 ⟨rfl, hf7⟩
    have HOA7 := Lib.hid (fr0i HOA6.out hf7)
    have HH7 := Lib.hid (HH6.out.fr0 hf7)
    have HF7 := Lib.hid (HF6.out.trans0 hf7)
    clear hf7 HG6 HH6 HF6 HOA6
    go_wp2_with fail
    refine (ris_any _ _ G other _ HH7.out ?_ (by omega)).mono ?_
    · exact fr0i HO.out HF7.out
    rintro e w8 ⟨rfl, hf8⟩
    rw [← HIO.out]
    have HOA8 := Lib.hid (fr0i HOA7.out hf8)
    have HH8 := Lib.hid (HH7.out.fr0 hf8)
    have HF8 := Lib.hid (HF7.out.trans0 hf8)
    clear hf8 HH7 HF7 HOA7
    generalize isP G other = io at *
    have hbn2 : (io == io) = true := by cases io <;> rfl
    go_wp2_with fail
    refine (works_any _).mono ?_
    rintro e w9 ⟨rfl, hf9⟩
    have HF9 := Lib.hid (HF8.out.trans0 hf9)
    clear hf9
    go_wp2_with fail
    go_ret
    exact ⟨rfl, HF9.out⟩
  | true =>
    have ht := HFI.out rfl
    rw [ht] at hCH
    rw [ht]
    have hod : od.length = G.length := by simpa using hCH.symm
    have hoi : ((od.length : Int) == (G.length : Int)) = true := by rw [hod]; simp
    have HT := Lib.hid ht
    clear hCH ht hod
    go_wp2_with fail
    refine (is_any _ _ G other _ HG6.out ?_ (by omega)).mono ?_
    · exact fr0i HO.out HF6.out
    rintro e w7 ⟨rfl, hf7⟩
    have HOA7 := Lib.hid (fr0i HOA6.out hf7)
    have HH7 := Lib.hid (HH6.out.fr0 hf7)
    have HF7 := Lib.hid (HF6.out.trans0 hf7)
    clear hf7 HG6 HH6 HF6 HOA6
    go_wp2_with fail
    refine (ris_any _ _ G other _ HH7.out ?_ (by omega)).mono ?_
    · exact fr0i HO.out HF7.out
    rintro e w8 ⟨rfl, hf8⟩
    rw [← HIO.out]
    have HOA8 := Lib.hid (fr0i HOA7.out hf8)
    have HH8 := Lib.hid (HH7.out.fr0 hf8)
    have HF8 := Lib.hid (HF7.out.trans0 hf8)
    clear hf8 HH7 HF7 HOA7
    generalize isP G other = io at *
    have hbn2 : (io == io) = true := by cases io <;> rfl
    go_wp2_with fail
    refine (ris_any _ _ G (ints od) _ HH8.out ?_ (by omega)).mono ?_
    · exact HOA8.out
    rintro e wx ⟨rfl, hfx⟩
    rw [← HIP.out, HT.out]
    have HFX := Lib.hid (HF8.out.trans0 hfx)
    clear hfx HH8 HF8 HOA8
    go_wp2_with fail
    refine (works_any _).mono ?_
    rintro e w9 ⟨rfl, hf9⟩
    have HF9 := Lib.hid (HFX.out.trans0 hf9)
    clear hf9
    go_wp2_with fail
    go_ret
    exact ⟨rfl, HF9.out⟩

set_option maxRecDepth 100000 in
set_option maxHeartbeats 1000000 in
theorem orders_few (v pv ov : Value) (L : List (List Int)) (picks other : List Int) (w : World) (h : RowsU8At w v L) (hp : IntsAt w pv picks) (ho : IntsAt w ov other) (hf : fewB L = false) :
    Calls Try.prog 4 #[v, pv, ov] w fun e w' => e = .returned (.bool true) ∧ Fr w w' Nil := by
  obtain ⟨pa, pcap, rfl⟩ := hp.shape
  obtain ⟨oa, ocap, rfl⟩ := ho.shape
  have H := Lib.hid h
  have HFB := Lib.hid hf
  clear h hp ho hf
  go_enter Try.func4, Try.ntmps4
  go_wp2_with fail
  refine (few_any v L w H.out).mono ?_
  rintro e w0 ⟨rfl, rfl⟩
  rw [HFB.out]
  go_wp2_with fail
  refine (works_any _).mono ?_
  rintro e w9 ⟨rfl, hf9⟩
  have HF9 := Lib.hid hf9
  clear hf9
  go_wp2_with fail
  go_ret
  exact ⟨rfl, HF9.out⟩
set_option maxRecDepth 100000 in
set_option maxHeartbeats 1000000 in
theorem orders_picks (v pv ov : Value) (L : List (List Int)) (picks other : List Int) (w : World) (h : RowsU8At w v L) (hp : IntsAt w pv picks) (ho : IntsAt w ov other) (hf : fewB L = true) (hpl : 100 < picks.length) :
    Calls Try.prog 4 #[v, pv, ov] w fun e w' => e = .returned (.bool true) ∧ Fr w w' Nil := by
  obtain ⟨pa, pcap, rfl⟩ := hp.shape
  obtain ⟨oa, ocap, rfl⟩ := ho.shape
  have H := Lib.hid h
  have HFB := Lib.hid hf
  have hd : decide ((100 : Int) < (picks.length : Int)) = true := by simp; omega
  have hd2 : (100 : Int) < (picks.length : Int) := by omega
  clear h hp ho hf
  go_enter Try.func4, Try.ntmps4
  go_wp2_with fail
  refine (few_any v L w H.out).mono ?_
  rintro e w0 ⟨rfl, rfl⟩
  rw [HFB.out]
  go_wp2_with fail
  refine (works_any _).mono ?_
  rintro e w9 ⟨rfl, hf9⟩
  have HF9 := Lib.hid hf9
  clear hf9
  go_wp2_with fail
  go_ret
  exact ⟨rfl, HF9.out⟩
set_option maxRecDepth 100000 in
set_option maxHeartbeats 1000000 in
theorem orders_other (v pv ov : Value) (L : List (List Int)) (picks other : List Int) (w : World) (h : RowsU8At w v L) (hp : IntsAt w pv picks) (ho : IntsAt w ov other) (hf : fewB L = true) (hpl : picks.length ≤ 100) (hol : 100 < other.length) :
    Calls Try.prog 4 #[v, pv, ov] w fun e w' => e = .returned (.bool true) ∧ Fr w w' Nil := by
  obtain ⟨pa, pcap, rfl⟩ := hp.shape
  obtain ⟨oa, ocap, rfl⟩ := ho.shape
  have H := Lib.hid h
  have HFB := Lib.hid hf
  have hd2 : ¬ (100 : Int) < (picks.length : Int) := by omega
  have hd3 : (100 : Int) < (other.length : Int) := by omega
  clear h hp ho hf
  go_enter Try.func4, Try.ntmps4
  go_wp2_with fail
  refine (few_any v L w H.out).mono ?_
  rintro e w0 ⟨rfl, rfl⟩
  rw [HFB.out]
  go_wp2_with fail
  refine (works_any _).mono ?_
  rintro e w9 ⟨rfl, hf9⟩
  have HF9 := Lib.hid hf9
  clear hf9
  go_wp2_with fail
  go_ret
  exact ⟨rfl, HF9.out⟩
theorem orders_any (v pv ov : Value) (L : List (List Int)) (picks other : List Int) (w : World) (h : RowsU8At w v L) (hp : IntsAt w pv picks) (ho : IntsAt w ov other) :
    Calls Try.prog 4 #[v, pv, ov] w fun e w' => e = .returned (.bool true) ∧ Fr w w' Nil := by
  cases hf : fewB L with
  | false => exact orders_few v pv ov L picks other w h hp ho hf
  | true =>
    by_cases h1 : picks.length ≤ 100
    · by_cases h2 : other.length ≤ 100
      · exact orders_main v pv ov L picks other w h hp ho hf h1 h2
      · exact orders_other v pv ov L picks other w h hp ho hf h1 (by omega)
    · exact orders_picks v pv ov L picks other w h hp ho hf (by omega)
end Go.Proofs.Ytegejcmihojhbaa
