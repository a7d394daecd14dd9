/-
  The document's history (interlockref19): walk of Dirty.
  No condition but sizes.
-/
import Derived.Test.YtegejcmihojhbaaHgDirtyP
import Derived.Test.YtegejcmihojhbaaHgPts
import Derived.Deep.QuietTactic
import Derived.BigQuiet
namespace Go.Proofs.Ytegejcmihojhbaa
open Go Go.RowKit

set_option maxRecDepth 100000 in
set_option maxHeartbeats 8000000 in
theorem rdirty_any (la : Option Addr) (lcap : Nat) (l : List AnsD) (ta : Option Addr) (tcap : Nat) (ts : List TouchD) (w : World) (ha : SlAt w 5 (.slice la l.length lcap) l.length (l.flatMap AnsD.vals0)) (hll : l.length ≤ 1000) (ht : TouchesAt w (.slice ta ts.length tcap) ts) (htl : ts.length ≤ 1000) :
    Calls Try.prog 26 #[.slice la l.length lcap, .slice ta ts.length tcap] w fun e w' => e = .returned (.bool (dirtyB l ts)) ∧ Fr w w' Nil := by
  have HA := Lib.hid ha
  have HT := Lib.hid ht
  clear ha ht
  go_enter Try.func26, Try.ntmps26
  go_wp2_with fail
  go_loopw [5, 6, 7] (fun vi _ _ wr => ∃ i : Nat, i ≤ ts.length ∧ vi = .int .i64 i ∧ NoHit l (aheadTo ts i) ∧ Fr w wr Nil) (fun vi _ _ _ => ts.length - (intOf vi).toNat)
  case atStart => exact ⟨0, by omega, rfl, NoHit.nil _, Fr.refl _ _⟩
  case round =>
    obtain ⟨i, hi, rfl, hn, hf⟩ := hrel
    have HN := Lib.hid hn
    have Hf := Lib.hid hf
    obtain ⟨wo, rfl⟩ : ∃ wo : World, wo = wr := ⟨_, rfl⟩
    clear hn hf
    by_cases hlt : i < ts.length
    · have hit := List.getElem?_eq_getElem hlt
      generalize ts[i] = b at hit
      have HIT := Lib.hid hit
      have HSU := Lib.hid (aheadTo_succ hit)
      have hil : (i : Int) < (ts.length : Int) := by omega
      clear hit
      go_wp2_with fail
      go_loopw [6, 7] (fun vk _ wr => ∃ k : Nat, k ≤ i ∧ vk = .int .i64 k ∧ NoHit l (rowP ts b k) ∧ Fr w wr Nil) (fun vk _ _ => i - (intOf vk).toNat)
      case atStart => exact ⟨0, by omega, rfl, NoHit.nil _, Hf.out⟩
      case round =>
        obtain ⟨k, hk, rfl, hn2, hf⟩ := hrel
        have HN2 := Lib.hid hn2
        have Hf2 := Lib.hid hf
        obtain ⟨wi, rfl⟩ : ∃ wi : World, wi = wr := ⟨_, rfl⟩
        clear hn2 hf Hf
        by_cases hlk : k < i
        · obtain ⟨tb, toff, tcap2, hv, hc⟩ := TouchesAt.form (SlAt.fr0 HT.out Hf2.out) (by omega)
          simp only [Value.slice.injEq, true_and] at hv
          obtain ⟨rfl, rfl⟩ := hv
          have hkt := List.getElem?_eq_getElem (show k < ts.length by omega)
          generalize ts[k] = t at hkt
          obtain ⟨c0, c1, c2, c3, c4⟩ := hc k t hkt
          obtain ⟨tw, tt, tr, tk, twr, tok⟩ := t
          simp only at c0 c1 c2 c3 c4
          have HKT := Lib.hid hkt
          obtain ⟨d0, d1, d2, d3, d4⟩ := hc i b HIT.out
          have hkl : (k : Int) < (ts.length : Int) := by omega
          have k0 := KeptN.cell c0
          have k1 := KeptN.cell c1
          have k2 := KeptN.cell c2
          have k3 := KeptN.cell c3
          have k4 := KeptN.cell c4
          have m0 := KeptN.cell d0
          have m1 := KeptN.cell d1
          have m2 := KeptN.cell d2
          have m3 := KeptN.cell d3
          have m4 := KeptN.cell d4
          clear hc hkt c1 c2 c3 d0 d1 d2 d3 d4
          cases twr with
          | false =>
            have HNX := Lib.hid (HN2.out.row_next HKT.out (.inl rfl))
            clear c0 c4
            go_wp2_with fail
            refine wp_region_sink 17 (KeptN wi) (by kernel_rfl) ?_
            have hSa : KeptN wi wi.drew := KeptN.start _
            refine wpAnyS_take (i := 0) (v := ?_) rfl (by kernel_rfl) (fun _ _ _ h => h) (by rfl) hSa ?_ ?_
            rotate_left
            · intro w' hS'
              (try dsimp only at hS')
              go_simp <;> with_reducible rfl
            try simp only [Act.put, List.setIfInBounds_toArray, List.set_cons_zero, List.set_cons_succ]
            refine wpAnyS_take (i := 1) (v := ?_) rfl (by kernel_rfl) (fun _ _ _ h => h) (by rfl) hSa ?_ ?_
            rotate_left
            · intro w' hS'
              (try dsimp only at hS')
              go_simp <;> with_reducible rfl
            try simp only [Act.put, List.setIfInBounds_toArray, List.set_cons_zero, List.set_cons_succ]
            refine wpAnyS_take (i := 2) (v := ?_) rfl (by kernel_rfl) (fun _ _ _ h => h) (by rfl) hSa ?_ ?_
            rotate_left
            · intro w' hS'
              (try dsimp only at hS')
              go_simp <;> with_reducible rfl
            try simp only [Act.put, List.setIfInBounds_toArray, List.set_cons_zero, List.set_cons_succ]
            refine wpAnyS_take (i := 3) (v := ?_) rfl (by kernel_rfl) (fun _ _ _ h => h) (by rfl) hSa ?_ ?_
            rotate_left
            · intro w' hS'
              (try dsimp only at hS')
              go_simp <;> with_reducible rfl
            try simp only [Act.put, List.setIfInBounds_toArray, List.set_cons_zero, List.set_cons_succ]
            refine wpAnyS_take (i := 4) (v := ?_) rfl (by kernel_rfl) (fun _ _ _ h => h) (by rfl) hSa ?_ ?_
            rotate_left
            · intro w' hS'
              have ck4 := k4 _ hS'
              go_simp <;> with_reducible rfl
            try simp only [Act.put, List.setIfInBounds_toArray, List.set_cons_zero, List.set_cons_succ]
            refine wpAnyS_take (i := 5) (v := ?_) rfl (by kernel_rfl) (fun _ _ _ h => h) (by rfl) hSa ?_ ?_
            rotate_left
            · intro w' hS'
              (try dsimp only at hS')
              go_simp <;> with_reducible rfl
            try simp only [Act.put, List.setIfInBounds_toArray, List.set_cons_zero, List.set_cons_succ]
            refine wpAnyS_take (i := 6) (v := ?_) rfl (by kernel_rfl) (fun _ _ _ h => h) (by rfl) hSa ?_ ?_
            rotate_left
            · intro w' hS'
              (try dsimp only at hS')
              go_simp <;> with_reducible rfl
            try simp only [Act.put, List.setIfInBounds_toArray, List.set_cons_zero, List.set_cons_succ]
            refine wpAnyS_skip (i := 7) rfl (by kernel_rfl) (fun _ _ _ h => h) (by rfl) hSa ?_
            try simp only [Act.put, List.setIfInBounds_toArray, List.set_cons_zero, List.set_cons_succ]
            refine wpAnyS_skip (i := 8) rfl (by kernel_rfl) (fun _ _ _ h => h) (by rfl) hSa ?_
            try simp only [Act.put, List.setIfInBounds_toArray, List.set_cons_zero, List.set_cons_succ]
            refine wpAnyS_skip (i := 9) rfl (by kernel_rfl) (fun _ _ _ h => h) (by rfl) hSa ?_
            try simp only [Act.put, List.setIfInBounds_toArray, List.set_cons_zero, List.set_cons_succ]
            refine wpAnyS_skip (i := 10) rfl (by kernel_rfl) (fun _ _ _ h => h) (by rfl) hSa ?_
            try simp only [Act.put, List.setIfInBounds_toArray, List.set_cons_zero, List.set_cons_succ]
            refine wpAnyS_skip (i := 11) rfl (by kernel_rfl) (fun _ _ _ h => h) (by rfl) hSa ?_
            try simp only [Act.put, List.setIfInBounds_toArray, List.set_cons_zero, List.set_cons_succ]
            refine wpAnyS_skip (i := 12) rfl (by kernel_rfl) (fun _ _ _ h => h) (by rfl) hSa ?_
            try simp only [Act.put, List.setIfInBounds_toArray, List.set_cons_zero, List.set_cons_succ]
            refine wpAnyS_skip (i := 13) rfl (by kernel_rfl) (fun _ _ _ h => h) (by rfl) hSa ?_
            try simp only [Act.put, List.setIfInBounds_toArray, List.set_cons_zero, List.set_cons_succ]
            refine wpAnyS_skip (i := 14) rfl (by kernel_rfl) (fun _ _ _ h => h) (by rfl) hSa ?_
            try simp only [Act.put, List.setIfInBounds_toArray, List.set_cons_zero, List.set_cons_succ]
            refine wpAnyS_skip (i := 15) rfl (by kernel_rfl) (fun _ _ _ h => h) (by rfl) hSa ?_
            try simp only [Act.put, List.setIfInBounds_toArray, List.set_cons_zero, List.set_cons_succ]
            refine wpAnyS_skip (i := 16) rfl (by kernel_rfl) (fun _ _ _ h => h) (by rfl) hSa ?_
            try simp only [Act.put, List.setIfInBounds_toArray, List.set_cons_zero, List.set_cons_succ]
            refine wpAnyS_last (i := 17) rfl (by kernel_rfl) (by decide) (by kernel_rfl) (by rfl) fun K hK => ?_
            go_simp
            refine hK.out _ _ ?_
            clear hK K
            have Hf3 := Lib.hid (Fr.trans0 Hf2.out hSa)
            clear hSa k0 k1 k2 k3 k4 m0 m1 m2 m3 m4
            go_wp2_with fail
            go_roundw
            case rel => exact ⟨k + 1, by omega, by go_num, HNX.out, Hf3.out⟩
            case measure => simp [intOf]; omega
          | true =>
            go_wp2_with fail
            refine wp_region_sink 17 (KeptN wi) (by kernel_rfl) ?_
            have hSa : KeptN wi wi.drew := KeptN.start _
            clear c4
            refine wpAnyS_take (i := 0) (v := ?_) rfl (by kernel_rfl) (fun _ _ _ h => h) (by rfl) hSa ?_ ?_
            rotate_left
            · intro w' hS'
              (try dsimp only at hS')
              go_simp <;> with_reducible rfl
            try simp only [Act.put, List.setIfInBounds_toArray, List.set_cons_zero, List.set_cons_succ]
            refine wpAnyS_take (i := 1) (v := ?_) rfl (by kernel_rfl) (fun _ _ _ h => h) (by rfl) hSa ?_ ?_
            rotate_left
            · intro w' hS'
              (try dsimp only at hS')
              go_simp <;> with_reducible rfl
            try simp only [Act.put, List.setIfInBounds_toArray, List.set_cons_zero, List.set_cons_succ]
            refine wpAnyS_take (i := 2) (v := ?_) rfl (by kernel_rfl) (fun _ _ _ h => h) (by rfl) hSa ?_ ?_
            rotate_left
            · intro w' hS'
              (try dsimp only at hS')
              go_simp <;> with_reducible rfl
            try simp only [Act.put, List.setIfInBounds_toArray, List.set_cons_zero, List.set_cons_succ]
            refine wpAnyS_take (i := 3) (v := ?_) rfl (by kernel_rfl) (fun _ _ _ h => h) (by rfl) hSa ?_ ?_
            rotate_left
            · intro w' hS'
              (try dsimp only at hS')
              go_simp <;> with_reducible rfl
            try simp only [Act.put, List.setIfInBounds_toArray, List.set_cons_zero, List.set_cons_succ]
            refine wpAnyS_take (i := 4) (v := ?_) rfl (by kernel_rfl) (fun _ _ _ h => h) (by rfl) hSa ?_ ?_
            rotate_left
            · intro w' hS'
              have ck4 := k4 _ hS'
              go_simp <;> with_reducible rfl
            try simp only [Act.put, List.setIfInBounds_toArray, List.set_cons_zero, List.set_cons_succ]
            refine wpAnyS_take (i := 5) (v := ?_) rfl (by kernel_rfl) (fun _ _ _ h => h) (by rfl) hSa ?_ ?_
            rotate_left
            · intro w' hS'
              (try dsimp only at hS')
              go_simp <;> with_reducible rfl
            try simp only [Act.put, List.setIfInBounds_toArray, List.set_cons_zero, List.set_cons_succ]
            refine wpAnyS_take (i := 6) (v := ?_) rfl (by kernel_rfl) (fun _ _ _ h => h) (by rfl) hSa ?_ ?_
            rotate_left
            · intro w' hS'
              (try dsimp only at hS')
              go_simp <;> with_reducible rfl
            try simp only [Act.put, List.setIfInBounds_toArray, List.set_cons_zero, List.set_cons_succ]
            refine wpAnyS_take (i := 7) (v := ?_) rfl (by kernel_rfl) (fun _ _ _ h => h) (by rfl) hSa ?_ ?_
            rotate_left
            · intro w' hS'
              (try dsimp only at hS')
              go_simp <;> with_reducible rfl
            try simp only [Act.put, List.setIfInBounds_toArray, List.set_cons_zero, List.set_cons_succ]
            refine wpAnyS_take (i := 8) (v := ?_) rfl (by kernel_rfl) (fun _ _ _ h => h) (by rfl) hSa ?_ ?_
            rotate_left
            · intro w' hS'
              (try dsimp only at hS')
              go_simp <;> with_reducible rfl
            try simp only [Act.put, List.setIfInBounds_toArray, List.set_cons_zero, List.set_cons_succ]
            refine wpAnyS_take (i := 9) (v := ?_) rfl (by kernel_rfl) (fun _ _ _ h => h) (by rfl) hSa ?_ ?_
            rotate_left
            · intro w' hS'
              (try dsimp only at hS')
              go_simp <;> with_reducible rfl
            try simp only [Act.put, List.setIfInBounds_toArray, List.set_cons_zero, List.set_cons_succ]
            refine wpAnyS_take (i := 10) (v := ?_) rfl (by kernel_rfl) (fun _ _ _ h => h) (by rfl) hSa ?_ ?_
            rotate_left
            · intro w' hS'
              have ck0 := k0 _ hS'
              have ck1 := k1 _ hS'
              have ck2 := k2 _ hS'
              have ck3 := k3 _ hS'
              have ck4 := k4 _ hS'
              go_simp <;> with_reducible rfl
            try simp only [Act.put, List.setIfInBounds_toArray, List.set_cons_zero, List.set_cons_succ]
            refine wpAnyS_take (i := 11) (v := ?_) rfl (by kernel_rfl) (fun _ _ _ h => h) (by rfl) hSa ?_ ?_
            rotate_left
            · intro w' hS'
              (try dsimp only at hS')
              go_simp <;> with_reducible rfl
            try simp only [Act.put, List.setIfInBounds_toArray, List.set_cons_zero, List.set_cons_succ]
            refine wpAnyS_take (i := 12) (v := ?_) rfl (by kernel_rfl) (fun _ _ _ h => h) (by rfl) hSa ?_ ?_
            rotate_left
            · intro w' hS'
              (try dsimp only at hS')
              go_simp <;> with_reducible rfl
            try simp only [Act.put, List.setIfInBounds_toArray, List.set_cons_zero, List.set_cons_succ]
            refine wpAnyS_take (i := 13) (v := ?_) rfl (by kernel_rfl) (fun _ _ _ h => h) (by rfl) hSa ?_ ?_
            rotate_left
            · intro w' hS'
              (try dsimp only at hS')
              go_simp <;> with_reducible rfl
            try simp only [Act.put, List.setIfInBounds_toArray, List.set_cons_zero, List.set_cons_succ]
            refine wpAnyS_take (i := 14) (v := ?_) rfl (by kernel_rfl) (fun _ _ _ h => h) (by rfl) hSa ?_ ?_
            rotate_left
            · intro w' hS'
              have cm0 := m0 _ hS'
              have cm1 := m1 _ hS'
              have cm2 := m2 _ hS'
              have cm3 := m3 _ hS'
              have cm4 := m4 _ hS'
              go_simp <;> with_reducible rfl
            try simp only [Act.put, List.setIfInBounds_toArray, List.set_cons_zero, List.set_cons_succ]
            refine wpAnyS_one (i := 15) rfl (by kernel_rfl) (by decide) (by rfl) fun K hK => ?_
            go_simp
            refine (rconflict_any ⟨tw, tt, tr, tk, true, tok⟩ b _).mono ?_
            rintro e w2 ⟨rfl, hf2⟩
            have hSb : KeptN wi w2 := Fr.trans0 hSa hf2
            refine hK.out _ _ hSb ?_
            clear hK K
            try simp only [Act.put, List.setIfInBounds_toArray, List.set_cons_zero, List.set_cons_succ]
            cases hcf : conf ⟨tw, tt, tr, tk, true, tok⟩ b with
            | false =>
              have HNX := Lib.hid (HN2.out.row_next HKT.out (.inl (by rw [hcf]; rfl)))
              refine wpAnyS_take (i := 16) (v := ?_) rfl (by kernel_rfl) (fun _ _ _ h => h) (by rfl) hSb ?_ ?_
              rotate_left
              · intro w' hS'
                (try dsimp only at hS')
                go_simp <;> with_reducible rfl
              try simp only [Act.put, List.setIfInBounds_toArray, List.set_cons_zero, List.set_cons_succ]
              refine wpAnyS_last (i := 17) rfl (by kernel_rfl) (by decide) (by kernel_rfl) (by rfl) fun K hK => ?_
              go_simp
              refine hK.out _ _ ?_
              clear hK K hcf
              have Hf3 := Lib.hid (Fr.trans0 Hf2.out hSb)
              clear hSa hSb hf2 k0 k1 k2 k3 k4 m0 m1 m2 m3 m4 c0
              go_wp2_with fail
              go_roundw
              case rel => exact ⟨k + 1, by omega, by go_num, HNX.out, Hf3.out⟩
              case measure => simp [intOf]; omega
            | true =>
              have HCF := Lib.hid hcf
              refine wpAnyS_take (i := 16) (v := ?_) rfl (by kernel_rfl) (fun _ _ _ h => h) (by rfl) hSb ?_ ?_
              rotate_left
              · intro w' hS'
                (try dsimp only at hS')
                go_simp <;> with_reducible rfl
              try simp only [Act.put, List.setIfInBounds_toArray, List.set_cons_zero, List.set_cons_succ]
              refine wpAnyS_last (i := 17) rfl (by kernel_rfl) (by decide) (by kernel_rfl) (by rfl) fun K hK => ?_
              go_simp
              refine hK.out _ _ ?_
              clear hK K hcf
              have Hf3 := Lib.hid (Fr.trans0 Hf2.out hSb)
              have c5 := Fr.cell hSb c0 (fun h => h)
              clear hSa hSb hf2 k0 k1 k2 k3 k4 m0 m1 m2 m3 m4 c0
              go_wp2_with fail
              go_loopw [7] (fun vn wr => ∃ n : Nat, n ≤ l.length ∧ vn = .int .i64 n ∧ NoBad l n tw ∧ Fr w2 wr Nil) (fun vn _ => l.length - (intOf vn).toNat)
              case atStart => exact ⟨0, by omega, rfl, NoBad.zero _ _, Fr.refl _ _⟩
              case round =>
                obtain ⟨n, hn, rfl, hnb, hf⟩ := hrel
                have HNB := Lib.hid hnb
                have Hf4 := Lib.hid hf
                obtain ⟨wn, rfl⟩ : ∃ wn : World, wn = wr := ⟨_, rfl⟩
                have c6 := Fr.cell hf c5 (fun h => h)
                clear hnb hf c5
                by_cases hln : n < l.length
                · obtain ⟨ab, aoff, acap2, hv, hc⟩ := flat_form (n := 5) (f := AnsD.vals0) (fun _ => rfl) (by decide) (SlAt.fr0 HA.out (Fr.trans0 Hf3.out Hf4.out)) (by omega)
                  simp only [Value.slice.injEq, true_and] at hv
                  obtain ⟨rfl, rfl⟩ := hv
                  have hnt := List.getElem?_eq_getElem hln
                  generalize l[n] = a at hnt
                  have a0 := hc n _ hnt 0 _ rfl
                  have a2 := hc n _ hnt 2 _ rfl
                  simp only [Nat.add_zero] at a0
                  have HNT := Lib.hid hnt
                  have hnl : (n : Int) < (l.length : Int) := by omega
                  clear hc hnt
                  cases h1 : (a.who == tw) with
                  | false =>
                    have HBX := Lib.hid (HNB.out.next HNT.out (by rw [h1]; rfl))
                    go_wp2_with fail
                    go_quiet (fail)
                    go_wp2_with fail
                    go_roundw
                    case rel => exact ⟨n + 1, by omega, by go_num, HBX.out, Hf4.out.drewN _⟩
                    case measure => simp [intOf]; omega
                  | true =>
                    cases h2 : (a.code == 0) with
                    | true =>
                      have h3 : (a.code != 0) = false := by simp [bne, h2]
                      have HBX := Lib.hid (HNB.out.next HNT.out (by rw [h1, h2]; rfl))
                      clear h2
                      go_wp2_with fail
                      go_quiet (fail)
                      go_wp2_with fail
                      go_roundw
                      case rel => exact ⟨n + 1, by omega, by go_num, HBX.out, Hf4.out.drewN _⟩
                      case measure => simp [intOf]; omega
                    | false =>
                      have h3 : (a.code != 0) = true := by simp [bne, h2]
                      have HD := Lib.hid (dirty_at HIT.out HKT.out hlk HCF.out (bad_hit HNT.out rfl (by rw [h1, h2]; rfl)))
                      clear h2
                      go_wp2_with fail
                      go_quiet (fail)
                      go_wp2_with fail
                      go_ret
                      exact ⟨by rw [HD.out]; rfl, Fr.trans0 Hf3.out (Hf4.out.drewN _)⟩
                · obtain rfl : n = l.length := by omega
                  have HNX := Lib.hid (HN2.out.row_next HKT.out (.inr HNB.out.done))
                  go_wp2_with fail
                  go_roundw
                  case rel => exact ⟨k + 1, by omega, by go_num, HNX.out, Fr.trans0 Hf3.out Hf4.out⟩
                  case measure => simp [intOf]; omega
        · obtain rfl : k = i := by omega
          have HNX := Lib.hid (HN.out.app HN2.out)
          rw [← HSU.out] at HNX
          go_wp2_with fail
          go_roundw
          case rel => exact ⟨k + 1, by omega, by go_num, HNX.out, Hf2.out⟩
          case measure => simp [intOf]; omega
    · obtain rfl : i = ts.length := by omega
      have HD := Lib.hid (NoHit.done HN.out)
      go_wp2_with fail
      go_ret
      exact ⟨by rw [HD.out]; rfl, Hf.out⟩
end Go.Proofs.Ytegejcmihojhbaa
