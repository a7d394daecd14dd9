/-
  Walk of WaitsRings: it answers true.
  No condition but sizes.
-/
import Derived.Test.YtkeiphmhckkniaaWtWorks
import Derived.Test.YtkeiphmhckkniaaWtRingLP
namespace Go.Proofs.Ytkeiphmhckkniaa
open Go Go.RowKit

theorem farOk_ex {gv : Value} {G : List (List Int)} {s : Nat} {w : World} (h : GraphAt w gv G) (hs : s < G.length) (hl : G.length ≤ 1000) : ∃ F, FarOk G s F := by
  obtain ⟨e, w', fr, ⟨F, b, c, hF, _⟩, _⟩ := far_any gv G s w h hs hl []
  exact ⟨F, hF⟩
theorem ints_take {l : List Nat} {k : Nat} : (ints l).take k = ints (l.take k) := by simp [ints, List.map_take]
theorem IntsAt.pre {w : World} {b c n : Nat} {l : List Nat} (h : OwnInts w 3 (.slice (some ⟨b, 0, none⟩) n c) (ints l)) (hn : l.length = n) (k : Nat) (hk : k ≤ n) : IntsAt w (.slice (some ⟨b, 0, none⟩) k c) (ints (l.take k)) := by
  have e1 : (ints (l.take k)).length = k := by rw [ints_len, List.length_take]; omega
  refine .inr ⟨_, c, by rw [e1], fun j u hu => ?_⟩
  have hj := (List.getElem?_eq_some_iff.1 hu).1
  rw [List.length_map, e1] at hj
  rw [Addr.add_lit, Nat.zero_add, h.cell (by rw [ints_len]; exact hn.symm) j (by rw [ints_len]; omega), ← hu, ints_getD]
  have hj2 : j < l.length := by omega
  simp [ints, hj, List.getD_eq_getElem?_getD, hj2]
theorem not_in_take {l : List Nat} (h : l.Nodup) {k : Nat} (hk : k < l.length) : (ints (l.take k)).contains ((l.getD k 0 : Nat) : Int) = false := by
  rw [← Bool.not_eq_true, List.contains_iff_mem, mem_ints]
  rintro ⟨x, e, hx⟩
  obtain ⟨j, hj⟩ := List.getElem?_of_mem hx
  have hjk : j < k := by have := (List.getElem?_eq_some_iff.1 hj).1; rw [List.length_take] at this; omega
  rw [List.getElem?_take_of_lt hjk] at hj
  have e2 : l[k]? = some x := by
    rw [List.getElem?_eq_getElem hk]
    rw [List.getD_eq_getElem?_getD, List.getElem?_eq_getElem hk] at e
    simp only [Option.getD_some] at e
    congr 1; omega
  have := List.getElem?_inj (List.getElem?_eq_some_iff.1 hj).1 h |>.1 (hj.trans e2.symm)
  omega
set_option maxRecDepth 100000 in
set_option maxHeartbeats 1000000 in
theorem wrings_any (gv : Value) (G : List (List Int)) (w : World) (h : GraphW w gv G) :
    Calls Try.prog 4 #[gv] w fun e w' => e = .returned (.bool true) ∧ Fr w w' Nil := by
  obtain ⟨ga, gc, rfl⟩ := h.shape
  have HW := Lib.hid h
  clear h
  go_enter Try.func4, Try.ntmps4
  go_wp2_with fail
  refine (few_any _ G 30 w HW.out (by decide)).mono ?_
  rintro e w0 ⟨rfl, rfl⟩
  cases hfew : fewP G 30 with
  | false =>
    clear hfew
    go_wp2_with fail
    refine (works_any w).mono ?_
    rintro e w1 ⟨rfl, hf⟩
    have HF := Lib.hid hf
    clear hf
    go_wp2_with fail
    go_ret
    exact ⟨rfl, HF.out⟩
  | true =>
    have HG := Lib.hid (HW.out.at hfew (by decide))
    have hl := (fewP_true hfew).1
    clear hfew
    have HS0 : Hid (sinkB G 0 = ((G.length : Int) == 0)) := by
      have : sinkB G 0 = ((G.length : Int) == 0) := by unfold sinkB; rw [Bool.eq_iff_iff]; simp
      exact this
    go_wp2_with fail
    go_loopw [3, 4, 5] (fun va vs vi wr => ∃ m : Nat, m ≤ G.length ∧ vi = .int .i64 (m : Int) ∧ va = .bool (anyB G m) ∧ vs = .bool (sinkB G m) ∧ Fr w wr Nil) (fun _ _ vi _ => G.length - (intOf vi).toNat)
    case atStart => exact ⟨0, by omega, rfl, rfl, by rw [HS0.out], Fr.refl _ _⟩
    case round =>
      obtain ⟨m, hm, rfl, rfl, rfl, hf⟩ := hrel
      have HF := Lib.hid hf
      clear hf
      by_cases hlt : m < G.length
      · have hml : (m : Int) < (G.length : Int) := by omega
        obtain ⟨F, hF⟩ := farOk_ex HG.out hlt (by omega)
        have HI := Lib.hid (ring_iff hF hlt)
        have HRP : Hid (ringP G m ≠ [] → ∃ a', RP G m (ringP G m) a' ∧ sees G a' m = true) := ring_rp hlt
        have HNX : Hid (∀ k, k < (ringP G m).length → sees G ((ringP G m).getD k 0) ((ringP G m).getD ((k + 1) % (ringP G m).length) 0) = true) := fun k hk => ring_next hlt hk
        have HAN := Lib.hid (anyB_succ G m)
        have HSN := Lib.hid (sinkB_succ G m)
        clear hF
        go_wp2_with fail
        refine (ring_in _ G m wr (HG.out.fr0 HF.out) hlt (by omega)).mono ?_
        rintro e w1 ⟨ra, rc, rfl, ho, -, hf1⟩
        rw [ints_len] at ho ⊢
        have hrl := ringP_len G m
        generalize ringP G m = R at *
        have HF1 := Lib.hid (HF.out.trans0 hf1)
        have HO := Lib.hid ho
        clear ho hf1
        go_wp2_with fail
        refine (reach_in _ G m w1 (HG.out.fr0 HF1.out) hlt (by omega)).mono ?_
        rintro e w2 ⟨ea, ec, rfl, ho2, -, hf2⟩
        have HF2 := Lib.hid (HF1.out.trans0 hf2)
        have HO2 := Lib.hid (HO.out.fr hf2 (fun _ _ h => h))
        have HH := Lib.hid ho2.at
        clear ho2 hf2
        go_wp2_with fail
        refine (has_any _ (reachP G m) (m : Int) w2 HH.out (by have := reachP_len G m; omega)).mono ?_
        rintro e w3 ⟨rfl, rfl⟩
        rw [contains_reach, ← HI.out]
        by_cases hr : 0 < R.length
        · have hrr : (0 : Int) < (R.length : Int) := by omega
          have hdr : decide (0 < R.length) = true := decide_eq_true hr
          rw [hdr]
          clear hdr
          go_wp2_with fail
          have HWY : Hid (wayP G m m = true) := by
            have : wayP G m m = true := by rw [← HI.out]; exact decide_eq_true hr
            exact this
          obtain ⟨a', hrp, -⟩ := HRP.out (fun e => by rw [e] at hr; cases hr)
          have HHD := Lib.hid hrp.head
          have HND := Lib.hid hrp.nodup
          have HLT := Lib.hid hrp.lt
          obtain ⟨b, c, hv, hcap⟩ := HO2.out.form (by rw [ints_len]; exact hr)
          rw [ints_len] at hv hcap
          simp only [Value.slice.injEq, true_and] at hv
          obtain ⟨rfl, rfl⟩ := hv
          have HCP := Lib.hid hcap
          clear hrp hcap
          go_loopw [7] (fun vk wq => ∃ k : Nat, k ≤ R.length ∧ vk = .int .i64 (k : Int) ∧ Fr w2 wq Nil) (fun vk _ => R.length - (intOf vk).toNat)
          case atStart => exact ⟨0, by omega, rfl, Fr.refl _ _⟩
          case round =>
            obtain ⟨k, hk, rfl, hf5⟩ := hrel
            have HF5 := Lib.hid (HF2.out.trans0 hf5)
            have HO5 := Lib.hid (HO2.out.fr hf5 (fun _ _ h => h))
            have HFB := Lib.hid hf5
            clear hf5
            by_cases hkr : k < R.length
            · have hkl : (k : Int) < (R.length : Int) := by omega
              have hsee := HNX.out k hkr
              have hnin := not_in_take HND.out hkr
              have hpre := IntsAt.pre HO5.out rfl k (by omega)
              have q0 := HO5.out.cell (by rw [ints_len]) k (by rw [ints_len]; exact hkr)
              rw [ints_getD] at q0
              have hpn : R.getD k 0 < G.length := HLT.out _ (by rw [List.getD_eq_getElem?_getD, List.getElem?_eq_getElem hkr]; exact List.getElem_mem hkr)
              have hcm : k ≤ rc := by have := HCP.out; omega
              have hRne : ¬ (R = []) := fun e => by rw [e] at hr; cases hr
              have hk0 : (0 : Int) ≤ (k : Int) + 1 := by omega
              have ew : IntKind.i64.wrap ((k : Int) + 1) = (k : Int) + 1 := by rw [IntKind.wrap_i64]; omega
              obtain ⟨gb, go, gcap, hv, hc⟩ := HG.out.form (by omega)
              simp only [Value.slice.injEq, true_and] at hv
              obtain ⟨rfl, rfl⟩ := hv
              by_cases hk1 : k + 1 < R.length
              · have hk1l : (k : Int) + 1 < (R.length : Int) := by omega
                have q1 := HO5.out.cell (by rw [ints_len]) (k + 1) (by rw [ints_len]; exact hk1)
                rw [ints_getD] at q1
                rw [Nat.mod_eq_of_lt hk1] at hsee
                have e1 : ((k : Int) + 1) % (R.length : Int) = (k : Int) + 1 := Int.emod_eq_of_lt (by omega) (by omega)
                have e2 : Int.tmod ((k : Int) + 1) (R.length : Int) = (k : Int) + 1 := Int.tmod_eq_of_lt (by omega) (by omega)
                generalize hqd : R.getD (k + 1) 0 = q at q1 hsee
                clear hqd
                generalize hpd : R.getD k 0 = p at *
                clear hpd
                have hpp : (p : Int) < (G.length : Int) := by omega
                obtain ⟨u, hu, hxu, hxl⟩ := hc p _ (List.getElem?_eq_getElem hpn)
                have hq : (G[p]).contains (q : Int) = true := by unfold sees at hsee; rw [List.getD_eq_getElem?_getD, List.getElem?_eq_getElem hpn] at hsee; exact hsee
                generalize G[p] = xs at *
                have q2 := HF5.out.cell hu (fun h => h)
                have HXU := Lib.hid (hxu.fr HF5.out (fun _ _ h => h))
                have HQ := Lib.hid hq
                have HPRE := Lib.hid hpre
                have HNIN := Lib.hid hnin
                clear hc hu hxu hq hpre hnin hsee
                go_wp2_with fail
                refine wp_region_sink 26 (fun w' : World => Fr wr w' Nil ∧ w'.cell? ⟨b, k, none⟩ = some (.int .i64 (p : Int)) ∧ w'.cell? ⟨b, k + 1, none⟩ = some (.int .i64 (q : Int)) ∧ w'.cell? ⟨gb, go + p, none⟩ = some u) (by kernel_rfl) ?_
                have hS : (fun w' : World => Fr wr w' Nil ∧ w'.cell? ⟨b, k, none⟩ = some (.int .i64 (p : Int)) ∧ w'.cell? ⟨b, k + 1, none⟩ = some (.int .i64 (q : Int)) ∧ w'.cell? ⟨gb, go + p, none⟩ = some u) wr.drew := ⟨(Fr.refl wr Nil).drew, q0, q1, q2⟩
                clear q0 q1 q2
                generalize wr.drew = w6 at *
                refine wpAnyS_take (i := 0) (v := ?_) rfl (by kernel_rfl) (fun _ _ _ h => h) (by rfl) hS ?_ ?_
                rotate_left
                · intro w' hS'
                  (try dsimp only at hS')
                  go_simp <;> with_reducible rfl
                try simp only [Act.put, List.setIfInBounds_toArray, List.set_cons_zero, List.set_cons_succ]
                refine wpAnyS_take (i := 1) (v := ?_) rfl (by kernel_rfl) (fun _ _ _ h => h) (by rfl) hS ?_ ?_
                rotate_left
                · intro w' hS'
                  (try dsimp only at hS')
                  go_simp <;> with_reducible rfl
                try simp only [Act.put, List.setIfInBounds_toArray, List.set_cons_zero, List.set_cons_succ]
                refine wpAnyS_take (i := 2) (v := ?_) rfl (by kernel_rfl) (fun _ _ _ h => h) (by rfl) hS ?_ ?_
                rotate_left
                · intro w' hS'
                  (try dsimp only at hS')
                  go_simp <;> with_reducible rfl
                try simp only [Act.put, List.setIfInBounds_toArray, List.set_cons_zero, List.set_cons_succ]
                refine wpAnyS_take (i := 3) (v := ?_) rfl (by kernel_rfl) (fun _ _ _ h => h) (by rfl) hS ?_ ?_
                rotate_left
                · intro w' hS'
                  (try dsimp only at hS')
                  go_simp <;> with_reducible rfl
                try simp only [Act.put, List.setIfInBounds_toArray, List.set_cons_zero, List.set_cons_succ]
                refine wpAnyS_take (i := 4) (v := ?_) rfl (by kernel_rfl) (fun _ _ _ h => h) (by rfl) hS ?_ ?_
                rotate_left
                · intro w' hS'
                  (try dsimp only at hS')
                  go_simp <;> with_reducible rfl
                try simp only [Act.put, List.setIfInBounds_toArray, List.set_cons_zero, List.set_cons_succ]
                refine wpAnyS_take (i := 5) (v := ?_) rfl (by kernel_rfl) (fun _ _ _ h => h) (by rfl) hS ?_ ?_
                rotate_left
                · intro w' hS'
                  (try dsimp only at hS')
                  go_simp <;> with_reducible rfl
                try simp only [Act.put, List.setIfInBounds_toArray, List.set_cons_zero, List.set_cons_succ]
                refine wpAnyS_take (i := 6) (v := ?_) rfl (by kernel_rfl) (fun _ _ _ h => h) (by rfl) hS ?_ ?_
                rotate_left
                · intro w' hS'
                  (try dsimp only at hS')
                  go_simp <;> with_reducible rfl
                try simp only [Act.put, List.setIfInBounds_toArray, List.set_cons_zero, List.set_cons_succ]
                refine wpAnyS_take (i := 7) (v := ?_) rfl (by kernel_rfl) (fun _ _ _ h => h) (by rfl) hS ?_ ?_
                rotate_left
                · intro w' hS'
                  (try dsimp only at hS')
                  go_simp <;> with_reducible rfl
                try simp only [Act.put, List.setIfInBounds_toArray, List.set_cons_zero, List.set_cons_succ]
                refine wpAnyS_take (i := 8) (v := ?_) rfl (by kernel_rfl) (fun _ _ _ h => h) (by rfl) hS ?_ ?_
                rotate_left
                · intro w' hS'
                  (try dsimp only at hS')
                  go_simp <;> with_reducible rfl
                try simp only [Act.put, List.setIfInBounds_toArray, List.set_cons_zero, List.set_cons_succ]
                refine wpAnyS_take (i := 9) (v := ?_) rfl (by kernel_rfl) (fun _ _ _ h => h) (by rfl) hS ?_ ?_
                rotate_left
                · intro w' hS'
                  (try dsimp only at hS')
                  go_simp <;> with_reducible rfl
                try simp only [Act.put, List.setIfInBounds_toArray, List.set_cons_zero, List.set_cons_succ]
                refine wpAnyS_take (i := 10) (v := ?_) rfl (by kernel_rfl) (fun _ _ _ h => h) (by rfl) hS ?_ ?_
                rotate_left
                · intro w' hS'
                  (try dsimp only at hS')
                  go_simp <;> with_reducible rfl
                try simp only [Act.put, List.setIfInBounds_toArray, List.set_cons_zero, List.set_cons_succ]
                refine wpAnyS_take (i := 11) (v := ?_) rfl (by kernel_rfl) (fun _ _ _ h => h) (by rfl) hS ?_ ?_
                rotate_left
                · intro w' hS'
                  (try dsimp only at hS')
                  go_simp <;> with_reducible rfl
                try simp only [Act.put, List.setIfInBounds_toArray, List.set_cons_zero, List.set_cons_succ]
                refine wpAnyS_take (i := 12) (v := ?_) rfl (by kernel_rfl) (fun _ _ _ h => h) (by rfl) hS ?_ ?_
                rotate_left
                · intro w' hS'
                  (try dsimp only at hS')
                  go_simp <;> with_reducible rfl
                try simp only [Act.put, List.setIfInBounds_toArray, List.set_cons_zero, List.set_cons_succ]
                refine wpAnyS_take (i := 13) (v := ?_) rfl (by kernel_rfl) (fun _ _ _ h => h) (by rfl) hS ?_ ?_
                rotate_left
                · intro w' hS'
                  (try dsimp only at hS')
                  go_simp <;> with_reducible rfl
                try simp only [Act.put, List.setIfInBounds_toArray, List.set_cons_zero, List.set_cons_succ]
                refine wpAnyS_take (i := 14) (v := ?_) rfl (by kernel_rfl) (fun _ _ _ h => h) (by rfl) hS ?_ ?_
                rotate_left
                · intro w' hS'
                  (try dsimp only at hS')
                  go_simp <;> with_reducible rfl
                try simp only [Act.put, List.setIfInBounds_toArray, List.set_cons_zero, List.set_cons_succ]
                refine wpAnyS_one (i := 15) rfl (by kernel_rfl) (by decide) (by rfl) fun K hK => ?_
                go_simp
                refine (has_any u xs (q : Int) w6 (HXU.out.fr hS.1 (fun _ _ h => h)) hxl).mono ?_
                rintro e w7 ⟨rfl, rfl⟩
                rw [HQ.out]
                refine hK.out _ _ hS ?_
                clear hK K
                try simp only [Act.put, List.setIfInBounds_toArray, List.set_cons_zero, List.set_cons_succ]
                refine wpAnyS_take (i := 16) (v := ?_) rfl (by kernel_rfl) (fun _ _ _ h => h) (by rfl) hS ?_ ?_
                rotate_left
                · intro w' hS'
                  (try dsimp only at hS')
                  go_simp <;> with_reducible rfl
                try simp only [Act.put, List.setIfInBounds_toArray, List.set_cons_zero, List.set_cons_succ]
                refine wpAnyS_take (i := 17) (v := ?_) rfl (by kernel_rfl) (fun _ _ _ h => h) (by rfl) hS ?_ ?_
                rotate_left
                · intro w' hS'
                  (try dsimp only at hS')
                  go_simp <;> with_reducible rfl
                try simp only [Act.put, List.setIfInBounds_toArray, List.set_cons_zero, List.set_cons_succ]
                refine wpAnyS_take (i := 18) (v := ?_) rfl (by kernel_rfl) (fun _ _ _ h => h) (by rfl) hS ?_ ?_
                rotate_left
                · intro w' hS'
                  (try dsimp only at hS')
                  go_simp <;> with_reducible rfl
                try simp only [Act.put, List.setIfInBounds_toArray, List.set_cons_zero, List.set_cons_succ]
                refine wpAnyS_take (i := 19) (v := ?_) rfl (by kernel_rfl) (fun _ _ _ h => h) (by rfl) hS ?_ ?_
                rotate_left
                · intro w' hS'
                  (try dsimp only at hS')
                  go_simp <;> with_reducible rfl
                try simp only [Act.put, List.setIfInBounds_toArray, List.set_cons_zero, List.set_cons_succ]
                refine wpAnyS_take (i := 20) (v := ?_) rfl (by kernel_rfl) (fun _ _ _ h => h) (by rfl) hS ?_ ?_
                rotate_left
                · intro w' hS'
                  (try dsimp only at hS')
                  go_simp <;> with_reducible rfl
                try simp only [Act.put, List.setIfInBounds_toArray, List.set_cons_zero, List.set_cons_succ]
                refine wpAnyS_take (i := 21) (v := ?_) rfl (by kernel_rfl) (fun _ _ _ h => h) (by rfl) hS ?_ ?_
                rotate_left
                · intro w' hS'
                  (try dsimp only at hS')
                  go_simp <;> with_reducible rfl
                try simp only [Act.put, List.setIfInBounds_toArray, List.set_cons_zero, List.set_cons_succ]
                refine wpAnyS_take (i := 22) (v := ?_) rfl (by kernel_rfl) (fun _ _ _ h => h) (by rfl) hS ?_ ?_
                rotate_left
                · intro w' hS'
                  (try dsimp only at hS')
                  go_simp <;> with_reducible rfl
                try simp only [Act.put, List.setIfInBounds_toArray, List.set_cons_zero, List.set_cons_succ]
                refine wpAnyS_take (i := 23) (v := ?_) rfl (by kernel_rfl) (fun _ _ _ h => h) (by rfl) hS ?_ ?_
                rotate_left
                · intro w' hS'
                  (try dsimp only at hS')
                  go_simp <;> with_reducible rfl
                try simp only [Act.put, List.setIfInBounds_toArray, List.set_cons_zero, List.set_cons_succ]
                refine wpAnyS_take (i := 24) (v := ?_) rfl (by kernel_rfl) (fun _ _ _ h => h) (by rfl) hS ?_ ?_
                rotate_left
                · intro w' hS'
                  (try dsimp only at hS')
                  go_simp <;> with_reducible rfl
                try simp only [Act.put, List.setIfInBounds_toArray, List.set_cons_zero, List.set_cons_succ]
                refine wpAnyS_one (i := 25) rfl (by kernel_rfl) (by decide) (by rfl) fun K hK => ?_
                go_simp
                refine (has_any _ _ (p : Int) w6 (HPRE.out.fr hS.1 (fun _ _ h => h)) (by rw [ints_len, List.length_take]; omega)).mono ?_
                rintro e w7 ⟨rfl, rfl⟩
                rw [HNIN.out]
                refine hK.out _ _ hS ?_
                clear hK K
                try simp only [Act.put, List.setIfInBounds_toArray, List.set_cons_zero, List.set_cons_succ]
                refine wpAnyS_last (i := 26) rfl (by kernel_rfl) (by decide) (by kernel_rfl) (by rfl) fun K hK => ?_
                go_simp
                refine hK.out _ _ ?_
                clear hK K
                have HF6 := Lib.hid (HFB.out.trans0 hS.1)
                clear hS
                go_wp2_with fail
                go_roundw
                case rel => exact ⟨k + 1, by omega, by go_num, HF6.out⟩
                case measure => simp [intOf]; omega
              · have hk1l : (k : Int) + 1 = (R.length : Int) := by omega
                have q1 := HO5.out.cell (by rw [ints_len]) 0 (by rw [ints_len]; omega)
                rw [ints_getD] at q1
                rw [show k + 1 = R.length by omega, Nat.mod_self] at hsee
                have e1 : ((k : Int) + 1) % (R.length : Int) = 0 := by rw [hk1l, Int.emod_self]
                have e2 : Int.tmod ((k : Int) + 1) (R.length : Int) = 0 := by rw [hk1l, Int.tmod_self]
                clear hk1l
                generalize hqd : R.getD 0 0 = q at q1 hsee
                clear hqd
                generalize hpd : R.getD k 0 = p at *
                clear hpd
                have hpp : (p : Int) < (G.length : Int) := by omega
                obtain ⟨u, hu, hxu, hxl⟩ := hc p _ (List.getElem?_eq_getElem hpn)
                have hq : (G[p]).contains (q : Int) = true := by unfold sees at hsee; rw [List.getD_eq_getElem?_getD, List.getElem?_eq_getElem hpn] at hsee; exact hsee
                generalize G[p] = xs at *
                have q2 := HF5.out.cell hu (fun h => h)
                have HXU := Lib.hid (hxu.fr HF5.out (fun _ _ h => h))
                have HQ := Lib.hid hq
                have HPRE := Lib.hid hpre
                have HNIN := Lib.hid hnin
                clear hc hu hxu hq hpre hnin hsee
                go_wp2_with fail
                refine wp_region_sink 26 (fun w' : World => Fr wr w' Nil ∧ w'.cell? ⟨b, k, none⟩ = some (.int .i64 (p : Int)) ∧ w'.cell? ⟨b, 0, none⟩ = some (.int .i64 (q : Int)) ∧ w'.cell? ⟨gb, go + p, none⟩ = some u) (by kernel_rfl) ?_
                have hS : (fun w' : World => Fr wr w' Nil ∧ w'.cell? ⟨b, k, none⟩ = some (.int .i64 (p : Int)) ∧ w'.cell? ⟨b, 0, none⟩ = some (.int .i64 (q : Int)) ∧ w'.cell? ⟨gb, go + p, none⟩ = some u) wr.drew := ⟨(Fr.refl wr Nil).drew, q0, q1, q2⟩
                clear q0 q1 q2
                generalize wr.drew = w6 at *
                refine wpAnyS_take (i := 0) (v := ?_) rfl (by kernel_rfl) (fun _ _ _ h => h) (by rfl) hS ?_ ?_
                rotate_left
                · intro w' hS'
                  (try dsimp only at hS')
                  go_simp <;> with_reducible rfl
                try simp only [Act.put, List.setIfInBounds_toArray, List.set_cons_zero, List.set_cons_succ]
                refine wpAnyS_take (i := 1) (v := ?_) rfl (by kernel_rfl) (fun _ _ _ h => h) (by rfl) hS ?_ ?_
                rotate_left
                · intro w' hS'
                  (try dsimp only at hS')
                  go_simp <;> with_reducible rfl
                try simp only [Act.put, List.setIfInBounds_toArray, List.set_cons_zero, List.set_cons_succ]
                refine wpAnyS_take (i := 2) (v := ?_) rfl (by kernel_rfl) (fun _ _ _ h => h) (by rfl) hS ?_ ?_
                rotate_left
                · intro w' hS'
                  (try dsimp only at hS')
                  go_simp <;> with_reducible rfl
                try simp only [Act.put, List.setIfInBounds_toArray, List.set_cons_zero, List.set_cons_succ]
                refine wpAnyS_take (i := 3) (v := ?_) rfl (by kernel_rfl) (fun _ _ _ h => h) (by rfl) hS ?_ ?_
                rotate_left
                · intro w' hS'
                  (try dsimp only at hS')
                  go_simp <;> with_reducible rfl
                try simp only [Act.put, List.setIfInBounds_toArray, List.set_cons_zero, List.set_cons_succ]
                refine wpAnyS_take (i := 4) (v := ?_) rfl (by kernel_rfl) (fun _ _ _ h => h) (by rfl) hS ?_ ?_
                rotate_left
                · intro w' hS'
                  (try dsimp only at hS')
                  go_simp <;> with_reducible rfl
                try simp only [Act.put, List.setIfInBounds_toArray, List.set_cons_zero, List.set_cons_succ]
                refine wpAnyS_take (i := 5) (v := ?_) rfl (by kernel_rfl) (fun _ _ _ h => h) (by rfl) hS ?_ ?_
                rotate_left
                · intro w' hS'
                  (try dsimp only at hS')
                  go_simp <;> with_reducible rfl
                try simp only [Act.put, List.setIfInBounds_toArray, List.set_cons_zero, List.set_cons_succ]
                refine wpAnyS_take (i := 6) (v := ?_) rfl (by kernel_rfl) (fun _ _ _ h => h) (by rfl) hS ?_ ?_
                rotate_left
                · intro w' hS'
                  (try dsimp only at hS')
                  go_simp <;> with_reducible rfl
                try simp only [Act.put, List.setIfInBounds_toArray, List.set_cons_zero, List.set_cons_succ]
                refine wpAnyS_take (i := 7) (v := ?_) rfl (by kernel_rfl) (fun _ _ _ h => h) (by rfl) hS ?_ ?_
                rotate_left
                · intro w' hS'
                  (try dsimp only at hS')
                  go_simp <;> with_reducible rfl
                try simp only [Act.put, List.setIfInBounds_toArray, List.set_cons_zero, List.set_cons_succ]
                refine wpAnyS_take (i := 8) (v := ?_) rfl (by kernel_rfl) (fun _ _ _ h => h) (by rfl) hS ?_ ?_
                rotate_left
                · intro w' hS'
                  (try dsimp only at hS')
                  go_simp <;> with_reducible rfl
                try simp only [Act.put, List.setIfInBounds_toArray, List.set_cons_zero, List.set_cons_succ]
                refine wpAnyS_take (i := 9) (v := ?_) rfl (by kernel_rfl) (fun _ _ _ h => h) (by rfl) hS ?_ ?_
                rotate_left
                · intro w' hS'
                  (try dsimp only at hS')
                  go_simp <;> with_reducible rfl
                try simp only [Act.put, List.setIfInBounds_toArray, List.set_cons_zero, List.set_cons_succ]
                refine wpAnyS_take (i := 10) (v := ?_) rfl (by kernel_rfl) (fun _ _ _ h => h) (by rfl) hS ?_ ?_
                rotate_left
                · intro w' hS'
                  (try dsimp only at hS')
                  go_simp <;> with_reducible rfl
                try simp only [Act.put, List.setIfInBounds_toArray, List.set_cons_zero, List.set_cons_succ]
                refine wpAnyS_take (i := 11) (v := ?_) rfl (by kernel_rfl) (fun _ _ _ h => h) (by rfl) hS ?_ ?_
                rotate_left
                · intro w' hS'
                  (try dsimp only at hS')
                  go_simp <;> with_reducible rfl
                try simp only [Act.put, List.setIfInBounds_toArray, List.set_cons_zero, List.set_cons_succ]
                refine wpAnyS_take (i := 12) (v := ?_) rfl (by kernel_rfl) (fun _ _ _ h => h) (by rfl) hS ?_ ?_
                rotate_left
                · intro w' hS'
                  (try dsimp only at hS')
                  go_simp <;> with_reducible rfl
                try simp only [Act.put, List.setIfInBounds_toArray, List.set_cons_zero, List.set_cons_succ]
                refine wpAnyS_take (i := 13) (v := ?_) rfl (by kernel_rfl) (fun _ _ _ h => h) (by rfl) hS ?_ ?_
                rotate_left
                · intro w' hS'
                  (try dsimp only at hS')
                  go_simp <;> with_reducible rfl
                try simp only [Act.put, List.setIfInBounds_toArray, List.set_cons_zero, List.set_cons_succ]
                refine wpAnyS_take (i := 14) (v := ?_) rfl (by kernel_rfl) (fun _ _ _ h => h) (by rfl) hS ?_ ?_
                rotate_left
                · intro w' hS'
                  (try dsimp only at hS')
                  go_simp <;> with_reducible rfl
                try simp only [Act.put, List.setIfInBounds_toArray, List.set_cons_zero, List.set_cons_succ]
                refine wpAnyS_one (i := 15) rfl (by kernel_rfl) (by decide) (by rfl) fun K hK => ?_
                go_simp
                refine (has_any u xs (q : Int) w6 (HXU.out.fr hS.1 (fun _ _ h => h)) hxl).mono ?_
                rintro e w7 ⟨rfl, rfl⟩
                rw [HQ.out]
                refine hK.out _ _ hS ?_
                clear hK K
                try simp only [Act.put, List.setIfInBounds_toArray, List.set_cons_zero, List.set_cons_succ]
                refine wpAnyS_take (i := 16) (v := ?_) rfl (by kernel_rfl) (fun _ _ _ h => h) (by rfl) hS ?_ ?_
                rotate_left
                · intro w' hS'
                  (try dsimp only at hS')
                  go_simp <;> with_reducible rfl
                try simp only [Act.put, List.setIfInBounds_toArray, List.set_cons_zero, List.set_cons_succ]
                refine wpAnyS_take (i := 17) (v := ?_) rfl (by kernel_rfl) (fun _ _ _ h => h) (by rfl) hS ?_ ?_
                rotate_left
                · intro w' hS'
                  (try dsimp only at hS')
                  go_simp <;> with_reducible rfl
                try simp only [Act.put, List.setIfInBounds_toArray, List.set_cons_zero, List.set_cons_succ]
                refine wpAnyS_take (i := 18) (v := ?_) rfl (by kernel_rfl) (fun _ _ _ h => h) (by rfl) hS ?_ ?_
                rotate_left
                · intro w' hS'
                  (try dsimp only at hS')
                  go_simp <;> with_reducible rfl
                try simp only [Act.put, List.setIfInBounds_toArray, List.set_cons_zero, List.set_cons_succ]
                refine wpAnyS_take (i := 19) (v := ?_) rfl (by kernel_rfl) (fun _ _ _ h => h) (by rfl) hS ?_ ?_
                rotate_left
                · intro w' hS'
                  (try dsimp only at hS')
                  go_simp <;> with_reducible rfl
                try simp only [Act.put, List.setIfInBounds_toArray, List.set_cons_zero, List.set_cons_succ]
                refine wpAnyS_take (i := 20) (v := ?_) rfl (by kernel_rfl) (fun _ _ _ h => h) (by rfl) hS ?_ ?_
                rotate_left
                · intro w' hS'
                  (try dsimp only at hS')
                  go_simp <;> with_reducible rfl
                try simp only [Act.put, List.setIfInBounds_toArray, List.set_cons_zero, List.set_cons_succ]
                refine wpAnyS_take (i := 21) (v := ?_) rfl (by kernel_rfl) (fun _ _ _ h => h) (by rfl) hS ?_ ?_
                rotate_left
                · intro w' hS'
                  (try dsimp only at hS')
                  go_simp <;> with_reducible rfl
                try simp only [Act.put, List.setIfInBounds_toArray, List.set_cons_zero, List.set_cons_succ]
                refine wpAnyS_take (i := 22) (v := ?_) rfl (by kernel_rfl) (fun _ _ _ h => h) (by rfl) hS ?_ ?_
                rotate_left
                · intro w' hS'
                  (try dsimp only at hS')
                  go_simp <;> with_reducible rfl
                try simp only [Act.put, List.setIfInBounds_toArray, List.set_cons_zero, List.set_cons_succ]
                refine wpAnyS_take (i := 23) (v := ?_) rfl (by kernel_rfl) (fun _ _ _ h => h) (by rfl) hS ?_ ?_
                rotate_left
                · intro w' hS'
                  (try dsimp only at hS')
                  go_simp <;> with_reducible rfl
                try simp only [Act.put, List.setIfInBounds_toArray, List.set_cons_zero, List.set_cons_succ]
                refine wpAnyS_take (i := 24) (v := ?_) rfl (by kernel_rfl) (fun _ _ _ h => h) (by rfl) hS ?_ ?_
                rotate_left
                · intro w' hS'
                  (try dsimp only at hS')
                  go_simp <;> with_reducible rfl
                try simp only [Act.put, List.setIfInBounds_toArray, List.set_cons_zero, List.set_cons_succ]
                refine wpAnyS_one (i := 25) rfl (by kernel_rfl) (by decide) (by rfl) fun K hK => ?_
                go_simp
                refine (has_any _ _ (p : Int) w6 (HPRE.out.fr hS.1 (fun _ _ h => h)) (by rw [ints_len, List.length_take]; omega)).mono ?_
                rintro e w7 ⟨rfl, rfl⟩
                rw [HNIN.out]
                refine hK.out _ _ hS ?_
                clear hK K
                try simp only [Act.put, List.setIfInBounds_toArray, List.set_cons_zero, List.set_cons_succ]
                refine wpAnyS_last (i := 26) rfl (by kernel_rfl) (by decide) (by kernel_rfl) (by rfl) fun K hK => ?_
                go_simp
                refine hK.out _ _ ?_
                clear hK K
                have HF6 := Lib.hid (HFB.out.trans0 hS.1)
                clear hS
                go_wp2_with fail
                go_roundw
                case rel => exact ⟨k + 1, by omega, by go_num, HF6.out⟩
                case measure => simp [intOf]; omega
            · obtain rfl : k = R.length := by omega
              have q0 := HO5.out.cell (by rw [ints_len]) 0 (by rw [ints_len]; exact hr)
              rw [ints_getD, HHD.out] at q0
              cases hb1 : anyB G m with
              | true =>
                have HA : Hid (anyB G (m + 1) = true) := by
                  have : anyB G (m + 1) = true := by rw [HAN.out, hb1]; rfl
                  exact this
                clear hb1
                cases hb2 : sinkB G m with
                | true =>
                  have HS : Hid (sinkB G (m + 1) = true) := by
                    have : sinkB G (m + 1) = true := by rw [HSN.out, hb2]; rfl
                    exact this
                  clear hb2
                  go_wp2_with fail
                  go_roundw
                  case rel => exact ⟨m + 1, by omega, by go_num, by rw [HA.out], by rw [HS.out], HF5.out⟩
                  case measure => simp [intOf]; omega
                | false =>
                  have HB2 := Lib.hid hb2
                  clear hb2
                  go_wp2_with fail
                  refine (reach_in _ G m _ (HG.out.fr0 HF5.out) hlt (by omega)).mono ?_
                  rintro e w9 ⟨ea2, ec2, rfl, -, -, hf9⟩
                  have HF9 := Lib.hid (HF5.out.trans0 hf9)
                  clear hf9
                  by_cases hz : (reachP G m).length = 0
                  · have HS : Hid (sinkB G (m + 1) = true) := by
                      have : sinkB G (m + 1) = true := by rw [HSN.out, List.eq_nil_of_length_eq_zero hz]; simp
                      exact this
                    rw [hz]
                    clear hz
                    go_wp2_with fail
                    go_roundw
                    case rel => exact ⟨m + 1, by omega, by go_num, by rw [HA.out], by rw [HS.out], HF9.out⟩
                    case measure => simp [intOf]; omega
                  · have HS : Hid (sinkB G (m + 1) = false) := by
                      have : sinkB G (m + 1) = false := by
                        rw [HSN.out, HB2.out]
                        cases hre : reachP G m with
                        | nil => rw [hre] at hz; exact absurd rfl hz
                        | cons y l => rfl
                      exact this
                    have hzz : ((((reachP G m).length : Nat) : Int) == 0) = false := by simp; intro h; rw [h] at hz; exact hz rfl
                    clear hz
                    generalize (reachP G m).length = z at *
                    go_wp2_with fail
                    go_roundw
                    case rel => exact ⟨m + 1, by omega, by go_num, by rw [HA.out], by rw [HS.out], HF9.out⟩
                    case measure => simp [intOf]; omega
              | false =>
                have HA : Hid (anyB G (m + 1) = true) := by
                  have : anyB G (m + 1) = true := by rw [HAN.out, hb1, HWY.out]; rfl
                  exact this
                clear hb1
                cases hb2 : sinkB G m with
                | true =>
                  have HS : Hid (sinkB G (m + 1) = true) := by
                    have : sinkB G (m + 1) = true := by rw [HSN.out, hb2]; rfl
                    exact this
                  clear hb2
                  go_wp2_with fail
                  go_roundw
                  case rel => exact ⟨m + 1, by omega, by go_num, by rw [HA.out], by rw [HS.out], HF5.out⟩
                  case measure => simp [intOf]; omega
                | false =>
                  have HB2 := Lib.hid hb2
                  clear hb2
                  go_wp2_with fail
                  refine (reach_in _ G m _ (HG.out.fr0 HF5.out) hlt (by omega)).mono ?_
                  rintro e w9 ⟨ea2, ec2, rfl, -, -, hf9⟩
                  have HF9 := Lib.hid (HF5.out.trans0 hf9)
                  clear hf9
                  by_cases hz : (reachP G m).length = 0
                  · have HS : Hid (sinkB G (m + 1) = true) := by
                      have : sinkB G (m + 1) = true := by rw [HSN.out, List.eq_nil_of_length_eq_zero hz]; simp
                      exact this
                    rw [hz]
                    clear hz
                    go_wp2_with fail
                    go_roundw
                    case rel => exact ⟨m + 1, by omega, by go_num, by rw [HA.out], by rw [HS.out], HF9.out⟩
                    case measure => simp [intOf]; omega
                  · have HS : Hid (sinkB G (m + 1) = false) := by
                      have : sinkB G (m + 1) = false := by
                        rw [HSN.out, HB2.out]
                        cases hre : reachP G m with
                        | nil => rw [hre] at hz; exact absurd rfl hz
                        | cons y l => rfl
                      exact this
                    have hzz : ((((reachP G m).length : Nat) : Int) == 0) = false := by simp; intro h; rw [h] at hz; exact hz rfl
                    clear hz
                    generalize (reachP G m).length = z at *
                    go_wp2_with fail
                    go_roundw
                    case rel => exact ⟨m + 1, by omega, by go_num, by rw [HA.out], by rw [HS.out], HF9.out⟩
                    case measure => simp [intOf]; omega
        · have hr0 : R.length = 0 := by omega
          have hrn := List.eq_nil_of_length_eq_zero hr0
          subst hrn
          clear hr hr0
          go_wp2_with fail
          have HWY : Hid (wayP G m m = false) := by
            have : wayP G m m = false := by rw [← HI.out]; rfl
            exact this
          clear HI HRP HNX HO HO2 hrl
          go_loopw [7] (fun vk wq => vk = .int .i64 0 ∧ Fr w wq Nil) (fun _ _ => 0)
          case atStart => exact ⟨rfl, HF2.out⟩
          case round =>
            obtain ⟨rfl, hf5⟩ := hrel
            have HF5 := Lib.hid hf5
            clear hf5
            cases hb1 : anyB G m with
            | true =>
              have HA : Hid (anyB G (m + 1) = true) := by
                have : anyB G (m + 1) = true := by rw [HAN.out, hb1]; rfl
                exact this
              clear hb1
              cases hb2 : sinkB G m with
              | true =>
                have HS : Hid (sinkB G (m + 1) = true) := by
                  have : sinkB G (m + 1) = true := by rw [HSN.out, hb2]; rfl
                  exact this
                clear hb2
                go_wp2_with fail
                go_roundw
                case rel => exact ⟨m + 1, by omega, by go_num, by rw [HA.out], by rw [HS.out], HF5.out⟩
                case measure => simp [intOf]; omega
              | false =>
                have HB2 := Lib.hid hb2
                clear hb2
                go_wp2_with fail
                refine (reach_in _ G m _ (HG.out.fr0 HF5.out) hlt (by omega)).mono ?_
                rintro e w9 ⟨ea2, ec2, rfl, -, -, hf9⟩
                have HF9 := Lib.hid (HF5.out.trans0 hf9)
                clear hf9
                by_cases hz : (reachP G m).length = 0
                · have HS : Hid (sinkB G (m + 1) = true) := by
                    have : sinkB G (m + 1) = true := by rw [HSN.out, List.eq_nil_of_length_eq_zero hz]; simp
                    exact this
                  rw [hz]
                  clear hz
                  go_wp2_with fail
                  go_roundw
                  case rel => exact ⟨m + 1, by omega, by go_num, by rw [HA.out], by rw [HS.out], HF9.out⟩
                  case measure => simp [intOf]; omega
                · have HS : Hid (sinkB G (m + 1) = false) := by
                    have : sinkB G (m + 1) = false := by
                      rw [HSN.out, HB2.out]
                      cases hre : reachP G m with
                      | nil => rw [hre] at hz; exact absurd rfl hz
                      | cons y l => rfl
                    exact this
                  have hzz : ((((reachP G m).length : Nat) : Int) == 0) = false := by simp; intro h; rw [h] at hz; exact hz rfl
                  clear hz
                  generalize (reachP G m).length = z at *
                  go_wp2_with fail
                  go_roundw
                  case rel => exact ⟨m + 1, by omega, by go_num, by rw [HA.out], by rw [HS.out], HF9.out⟩
                  case measure => simp [intOf]; omega
            | false =>
              have HA : Hid (anyB G (m + 1) = false) := by
                have : anyB G (m + 1) = false := by rw [HAN.out, hb1, HWY.out]; rfl
                exact this
              clear hb1
              cases hb2 : sinkB G m with
              | true =>
                have HS : Hid (sinkB G (m + 1) = true) := by
                  have : sinkB G (m + 1) = true := by rw [HSN.out, hb2]; rfl
                  exact this
                clear hb2
                go_wp2_with fail
                go_roundw
                case rel => exact ⟨m + 1, by omega, by go_num, by rw [HA.out], by rw [HS.out], HF5.out⟩
                case measure => simp [intOf]; omega
              | false =>
                have HB2 := Lib.hid hb2
                clear hb2
                go_wp2_with fail
                refine (reach_in _ G m _ (HG.out.fr0 HF5.out) hlt (by omega)).mono ?_
                rintro e w9 ⟨ea2, ec2, rfl, -, -, hf9⟩
                have HF9 := Lib.hid (HF5.out.trans0 hf9)
                clear hf9
                by_cases hz : (reachP G m).length = 0
                · have HS : Hid (sinkB G (m + 1) = true) := by
                    have : sinkB G (m + 1) = true := by rw [HSN.out, List.eq_nil_of_length_eq_zero hz]; simp
                    exact this
                  rw [hz]
                  clear hz
                  go_wp2_with fail
                  go_roundw
                  case rel => exact ⟨m + 1, by omega, by go_num, by rw [HA.out], by rw [HS.out], HF9.out⟩
                  case measure => simp [intOf]; omega
                · have HS : Hid (sinkB G (m + 1) = false) := by
                    have : sinkB G (m + 1) = false := by
                      rw [HSN.out, HB2.out]
                      cases hre : reachP G m with
                      | nil => rw [hre] at hz; exact absurd rfl hz
                      | cons y l => rfl
                    exact this
                  have hzz : ((((reachP G m).length : Nat) : Int) == 0) = false := by simp; intro h; rw [h] at hz; exact hz rfl
                  clear hz
                  generalize (reachP G m).length = z at *
                  go_wp2_with fail
                  go_roundw
                  case rel => exact ⟨m + 1, by omega, by go_num, by rw [HA.out], by rw [HS.out], HF9.out⟩
                  case measure => simp [intOf]; omega
      · obtain rfl : m = G.length := by omega
        have HA1 := Lib.hid (any_acyc G)
        have HA2 := Lib.hid (any_sink G)
        go_wp2_with fail
        refine (acyclic_any _ G wr (HG.out.fr0 HF.out) (by omega)).mono ?_
        rintro e w2 ⟨rfl, hf2⟩
        rw [HA1.out]
        have HF2 := Lib.hid (HF.out.trans0 hf2)
        clear hf2
        cases ha : anyB G G.length with
        | true =>
          clear ha
          go_wp2_with fail
          refine (works_any w2).mono ?_
          rintro e w3 ⟨rfl, hf3⟩
          have HF3 := Lib.hid (HF2.out.trans0 hf3)
          clear hf3
          go_wp2_with fail
          go_ret
          exact ⟨rfl, HF3.out⟩
        | false =>
          have hsk : sinkB G G.length = true := by have := HA2.out; rw [ha] at this; exact this
          rw [hsk]
          clear ha hsk
          go_wp2_with fail
          refine (works_any w2).mono ?_
          rintro e w3 ⟨rfl, hf3⟩
          have HF3 := Lib.hid (HF2.out.trans0 hf3)
          clear hf3
          go_wp2_with fail
          go_ret
          exact ⟨rfl, HF3.out⟩
end Go.Proofs.Ytkeiphmhckkniaa
