/-
  The document's history (interlockref19): walk of points.
  No condition but sizes.
-/
import Derived.Test.YtegejcmihojhbaaHgRef
import Derived.Test.YtegejcmihojhbaaMem
namespace Go.Proofs.Ytegejcmihojhbaa
open Go Go.RowKit

def KeptN (w0 w : World) : Prop := Fr w0 w Nil
theorem KeptN.start (w : World) : KeptN w w.drew := (Fr.refl w Nil).drew
theorem KeptN.cell {w0 : World} {a : Addr} {v : Value} (h : w0.cell? a = some v) : ∀ w, KeptN w0 w → w.cell? a = some v := fun _ hf => Fr.cell hf h fun h => h

/-- Of which touch: one behind it by b that conflicts. -/
def hitP (b : Int) (t u : TouchD) : Bool := (u.who == b) && conf t u
def ptsP (a b : Int) : List TouchD → Bool
  | [] => false
  | t :: l => ((t.who == a) && l.any (hitP b t)) || ptsP a b l

set_option maxRecDepth 100000 in
set_option maxHeartbeats 4000000 in
theorem rpoints_any (a b : Int) (ta : Option Addr) (tcap : Nat) (ts : List TouchD) (w : World) (h : TouchesAt w (.slice ta ts.length tcap) ts) (hl : ts.length ≤ 1000) :
    Calls Try.prog 36 #[.int .i64 a, .int .i64 b, .slice ta ts.length tcap] w fun e w' => e = .returned (.bool (ptsP a b ts)) ∧ Fr w w' Nil := by
  have H := Lib.hid h
  clear h
  go_enter Try.func36, Try.ntmps36
  go_wp2_with fail
  go_loopw [7, 8] (fun vi _ wr => ∃ i : Nat, i ≤ ts.length ∧ vi = .int .i64 i ∧ ptsP a b ts = ptsP a b (ts.drop i) ∧ Fr w wr Nil) (fun vi _ _ => ts.length - (intOf vi).toNat)
  case atStart => exact ⟨0, by omega, rfl, rfl, Fr.refl _ _⟩
  case round =>
    obtain ⟨i, hi, rfl, hp, hf⟩ := hrel
    have HP := Lib.hid hp
    have Hf := Lib.hid hf
    obtain ⟨wo, rfl⟩ : ∃ wo : World, wo = wr := ⟨_, rfl⟩
    clear hp hf
    by_cases hlt : i < ts.length
    · have hit := List.getElem?_eq_getElem hlt
      have hdr : ts.drop i = ts[i] :: ts.drop (i + 1) := List.drop_eq_getElem_cons hlt
      generalize ts[i] = t at hit hdr
      have HP2 : Hid (ptsP a b ts = (((t.who == a) && (ts.drop (i + 1)).any (hitP b t)) || ptsP a b (ts.drop (i + 1)))) := by
        have := HP.out
        rw [hdr] at this
        exact this
      have HIT := Lib.hid hit
      have hil : (i : Int) < (ts.length : Int) := by omega
      clear hdr hit HP
      go_wp2_with fail
      go_loopw [8] (fun vj wr => ∃ j : Nat, i + 1 ≤ j ∧ j ≤ ts.length ∧ vj = .int .i64 j ∧ ptsP a b ts = (((t.who == a) && (ts.drop j).any (hitP b t)) || ptsP a b (ts.drop (i + 1))) ∧ Fr w wr Nil) (fun vj _ => ts.length - (intOf vj).toNat)
      case atStart => exact ⟨i + 1, by omega, by omega, by go_num, HP2.out, Hf.out⟩
      case round =>
        clear HP2 Hf
        obtain ⟨j, hji, hj, rfl, hp, hf⟩ := hrel
        have HP := Lib.hid hp
        have Hf := Lib.hid hf
        obtain ⟨wo, rfl⟩ : ∃ wo : World, wo = wr := ⟨_, rfl⟩
        clear hp hf
        by_cases hltj : j < ts.length
        · obtain ⟨tb, toff, tcap2, hv, hc⟩ := TouchesAt.form (SlAt.fr0 H.out Hf.out) (by omega)
          simp only [Value.slice.injEq, true_and] at hv
          obtain ⟨rfl, rfl⟩ := hv
          have hjt := List.getElem?_eq_getElem hltj
          have hdj : ts.drop j = ts[j] :: ts.drop (j + 1) := List.drop_eq_getElem_cons hltj
          generalize ts[j] = u at hjt hdj
          have HP2 : Hid (ptsP a b ts = (((t.who == a) && (((u.who == b) && conf t u) || (ts.drop (j + 1)).any (hitP b t))) || ptsP a b (ts.drop (i + 1)))) := by
            have := HP.out
            rw [hdj, List.any_cons] at this
            exact this
          obtain ⟨c0, c1, c2, c3, c4⟩ := hc i t HIT.out
          obtain ⟨d0, d1, d2, d3, d4⟩ := hc j u hjt
          have k0 := KeptN.cell c0
          have k1 := KeptN.cell c1
          have k2 := KeptN.cell c2
          have k3 := KeptN.cell c3
          have k4 := KeptN.cell c4
          have m0 := KeptN.cell d0
          have m1 := KeptN.cell d1
          have m2 := KeptN.cell d2
          have m3 := KeptN.cell d3
          have m4 := KeptN.cell d4
          have hjl : (j : Int) < (ts.length : Int) := by omega
          clear hc hjt hdj c0 c1 c2 c3 c4 d0 d1 d2 d3 d4 HP
          cases ha : (t.who == a) with
          | false =>
            rw [ha] at HP2
            go_wp2_with fail
            refine wp_region_sink 26 (KeptN wo) (by kernel_rfl) ?_
            have hSa : KeptN wo wo.drew := KeptN.start _
            refine wpAnyS_take (i := 0) (v := ?_) rfl (by kernel_rfl) (fun _ _ _ h => h) (by rfl) hSa ?_ ?_
            rotate_left
            · intro w' hS'
              (try dsimp only at hS')
              go_simp <;> with_reducible rfl
            try simp only [Act.put, List.setIfInBounds_toArray, List.set_cons_zero, List.set_cons_succ]
            refine wpAnyS_take (i := 1) (v := ?_) rfl (by kernel_rfl) (fun _ _ _ h => h) (by rfl) hSa ?_ ?_
            rotate_left
            · intro w' hS'
              (try dsimp only at hS')
              go_simp <;> with_reducible rfl
            try simp only [Act.put, List.setIfInBounds_toArray, List.set_cons_zero, List.set_cons_succ]
            refine wpAnyS_take (i := 2) (v := ?_) rfl (by kernel_rfl) (fun _ _ _ h => h) (by rfl) hSa ?_ ?_
            rotate_left
            · intro w' hS'
              (try dsimp only at hS')
              go_simp <;> with_reducible rfl
            try simp only [Act.put, List.setIfInBounds_toArray, List.set_cons_zero, List.set_cons_succ]
            refine wpAnyS_take (i := 3) (v := ?_) rfl (by kernel_rfl) (fun _ _ _ h => h) (by rfl) hSa ?_ ?_
            rotate_left
            · intro w' hS'
              (try dsimp only at hS')
              go_simp <;> with_reducible rfl
            try simp only [Act.put, List.setIfInBounds_toArray, List.set_cons_zero, List.set_cons_succ]
            refine wpAnyS_take (i := 4) (v := ?_) rfl (by kernel_rfl) (fun _ _ _ h => h) (by rfl) hSa ?_ ?_
            rotate_left
            · intro w' hS'
              have ck0 := k0 _ hS'
              go_simp <;> with_reducible rfl
            try simp only [Act.put, List.setIfInBounds_toArray, List.set_cons_zero, List.set_cons_succ]
            refine wpAnyS_take (i := 5) (v := ?_) rfl (by kernel_rfl) (fun _ _ _ h => h) (by rfl) hSa ?_ ?_
            rotate_left
            · intro w' hS'
              (try dsimp only at hS')
              go_simp <;> with_reducible rfl
            try simp only [Act.put, List.setIfInBounds_toArray, List.set_cons_zero, List.set_cons_succ]
            refine wpAnyS_take (i := 6) (v := ?_) rfl (by kernel_rfl) (fun _ _ _ h => h) (by rfl) hSa ?_ ?_
            rotate_left
            · intro w' hS'
              (try dsimp only at hS')
              go_simp <;> with_reducible rfl
            try simp only [Act.put, List.setIfInBounds_toArray, List.set_cons_zero, List.set_cons_succ]
            refine wpAnyS_take (i := 7) (v := ?_) rfl (by kernel_rfl) (fun _ _ _ h => h) (by rfl) hSa ?_ ?_
            rotate_left
            · intro w' hS'
              (try dsimp only at hS')
              go_simp <;> with_reducible rfl
            try simp only [Act.put, List.setIfInBounds_toArray, List.set_cons_zero, List.set_cons_succ]
            refine wpAnyS_skip (i := 8) rfl (by kernel_rfl) (fun _ _ _ h => h) (by rfl) hSa ?_
            try simp only [Act.put, List.setIfInBounds_toArray, List.set_cons_zero, List.set_cons_succ]
            refine wpAnyS_skip (i := 9) rfl (by kernel_rfl) (fun _ _ _ h => h) (by rfl) hSa ?_
            try simp only [Act.put, List.setIfInBounds_toArray, List.set_cons_zero, List.set_cons_succ]
            refine wpAnyS_skip (i := 10) rfl (by kernel_rfl) (fun _ _ _ h => h) (by rfl) hSa ?_
            try simp only [Act.put, List.setIfInBounds_toArray, List.set_cons_zero, List.set_cons_succ]
            refine wpAnyS_skip (i := 11) rfl (by kernel_rfl) (fun _ _ _ h => h) (by rfl) hSa ?_
            try simp only [Act.put, List.setIfInBounds_toArray, List.set_cons_zero, List.set_cons_succ]
            refine wpAnyS_skip (i := 12) rfl (by kernel_rfl) (fun _ _ _ h => h) (by rfl) hSa ?_
            try simp only [Act.put, List.setIfInBounds_toArray, List.set_cons_zero, List.set_cons_succ]
            refine wpAnyS_skip (i := 13) rfl (by kernel_rfl) (fun _ _ _ h => h) (by rfl) hSa ?_
            try simp only [Act.put, List.setIfInBounds_toArray, List.set_cons_zero, List.set_cons_succ]
            refine wpAnyS_skip (i := 14) rfl (by kernel_rfl) (fun _ _ _ h => h) (by rfl) hSa ?_
            try simp only [Act.put, List.setIfInBounds_toArray, List.set_cons_zero, List.set_cons_succ]
            refine wpAnyS_take (i := 15) (v := ?_) rfl (by kernel_rfl) (fun _ _ _ h => h) (by rfl) hSa ?_ ?_
            rotate_left
            · intro w' hS'
              (try dsimp only at hS')
              go_simp <;> with_reducible rfl
            try simp only [Act.put, List.setIfInBounds_toArray, List.set_cons_zero, List.set_cons_succ]
            refine wpAnyS_take (i := 16) (v := ?_) rfl (by kernel_rfl) (fun _ _ _ h => h) (by rfl) hSa ?_ ?_
            rotate_left
            · intro w' hS'
              (try dsimp only at hS')
              go_simp <;> with_reducible rfl
            try simp only [Act.put, List.setIfInBounds_toArray, List.set_cons_zero, List.set_cons_succ]
            refine wpAnyS_skip (i := 17) rfl (by kernel_rfl) (fun _ _ _ h => h) (by rfl) hSa ?_
            try simp only [Act.put, List.setIfInBounds_toArray, List.set_cons_zero, List.set_cons_succ]
            refine wpAnyS_skip (i := 18) rfl (by kernel_rfl) (fun _ _ _ h => h) (by rfl) hSa ?_
            try simp only [Act.put, List.setIfInBounds_toArray, List.set_cons_zero, List.set_cons_succ]
            refine wpAnyS_skip (i := 19) rfl (by kernel_rfl) (fun _ _ _ h => h) (by rfl) hSa ?_
            try simp only [Act.put, List.setIfInBounds_toArray, List.set_cons_zero, List.set_cons_succ]
            refine wpAnyS_skip (i := 20) rfl (by kernel_rfl) (fun _ _ _ h => h) (by rfl) hSa ?_
            try simp only [Act.put, List.setIfInBounds_toArray, List.set_cons_zero, List.set_cons_succ]
            refine wpAnyS_skip (i := 21) rfl (by kernel_rfl) (fun _ _ _ h => h) (by rfl) hSa ?_
            try simp only [Act.put, List.setIfInBounds_toArray, List.set_cons_zero, List.set_cons_succ]
            refine wpAnyS_skip (i := 22) rfl (by kernel_rfl) (fun _ _ _ h => h) (by rfl) hSa ?_
            try simp only [Act.put, List.setIfInBounds_toArray, List.set_cons_zero, List.set_cons_succ]
            refine wpAnyS_skip (i := 23) rfl (by kernel_rfl) (fun _ _ _ h => h) (by rfl) hSa ?_
            try simp only [Act.put, List.setIfInBounds_toArray, List.set_cons_zero, List.set_cons_succ]
            refine wpAnyS_skip (i := 24) rfl (by kernel_rfl) (fun _ _ _ h => h) (by rfl) hSa ?_
            try simp only [Act.put, List.setIfInBounds_toArray, List.set_cons_zero, List.set_cons_succ]
            refine wpAnyS_skip (i := 25) rfl (by kernel_rfl) (fun _ _ _ h => h) (by rfl) hSa ?_
            try simp only [Act.put, List.setIfInBounds_toArray, List.set_cons_zero, List.set_cons_succ]
            refine wpAnyS_last (i := 26) rfl (by kernel_rfl) (by decide) (by kernel_rfl) (by rfl) fun K hK => ?_
            go_simp
            refine hK.out _ _ ?_
            clear hK K ha
            have Hf2 := Lib.hid (Fr.trans0 Hf.out hSa)
            clear hSa k0 k1 k2 k3 k4 m0 m1 m2 m3 m4
            go_wp2_with fail
            go_roundw
            case rel => exact ⟨j + 1, by omega, by omega, by go_num, HP2.out, Hf2.out⟩
            case measure => simp [intOf]; omega
          | true =>
            rw [ha] at HP2
            cases hb : (u.who == b) with
            | false =>
              rw [hb] at HP2
              go_wp2_with fail
              refine wp_region_sink 26 (KeptN wo) (by kernel_rfl) ?_
              have hSa : KeptN wo wo.drew := KeptN.start _
              refine wpAnyS_take (i := 0) (v := ?_) rfl (by kernel_rfl) (fun _ _ _ h => h) (by rfl) hSa ?_ ?_
              rotate_left
              · intro w' hS'
                (try dsimp only at hS')
                go_simp <;> with_reducible rfl
              try simp only [Act.put, List.setIfInBounds_toArray, List.set_cons_zero, List.set_cons_succ]
              refine wpAnyS_take (i := 1) (v := ?_) rfl (by kernel_rfl) (fun _ _ _ h => h) (by rfl) hSa ?_ ?_
              rotate_left
              · intro w' hS'
                (try dsimp only at hS')
                go_simp <;> with_reducible rfl
              try simp only [Act.put, List.setIfInBounds_toArray, List.set_cons_zero, List.set_cons_succ]
              refine wpAnyS_take (i := 2) (v := ?_) rfl (by kernel_rfl) (fun _ _ _ h => h) (by rfl) hSa ?_ ?_
              rotate_left
              · intro w' hS'
                (try dsimp only at hS')
                go_simp <;> with_reducible rfl
              try simp only [Act.put, List.setIfInBounds_toArray, List.set_cons_zero, List.set_cons_succ]
              refine wpAnyS_take (i := 3) (v := ?_) rfl (by kernel_rfl) (fun _ _ _ h => h) (by rfl) hSa ?_ ?_
              rotate_left
              · intro w' hS'
                (try dsimp only at hS')
                go_simp <;> with_reducible rfl
              try simp only [Act.put, List.setIfInBounds_toArray, List.set_cons_zero, List.set_cons_succ]
              refine wpAnyS_take (i := 4) (v := ?_) rfl (by kernel_rfl) (fun _ _ _ h => h) (by rfl) hSa ?_ ?_
              rotate_left
              · intro w' hS'
                have ck0 := k0 _ hS'
                go_simp <;> with_reducible rfl
              try simp only [Act.put, List.setIfInBounds_toArray, List.set_cons_zero, List.set_cons_succ]
              refine wpAnyS_take (i := 5) (v := ?_) rfl (by kernel_rfl) (fun _ _ _ h => h) (by rfl) hSa ?_ ?_
              rotate_left
              · intro w' hS'
                (try dsimp only at hS')
                go_simp <;> with_reducible rfl
              try simp only [Act.put, List.setIfInBounds_toArray, List.set_cons_zero, List.set_cons_succ]
              refine wpAnyS_take (i := 6) (v := ?_) rfl (by kernel_rfl) (fun _ _ _ h => h) (by rfl) hSa ?_ ?_
              rotate_left
              · intro w' hS'
                (try dsimp only at hS')
                go_simp <;> with_reducible rfl
              try simp only [Act.put, List.setIfInBounds_toArray, List.set_cons_zero, List.set_cons_succ]
              refine wpAnyS_take (i := 7) (v := ?_) rfl (by kernel_rfl) (fun _ _ _ h => h) (by rfl) hSa ?_ ?_
              rotate_left
              · intro w' hS'
                (try dsimp only at hS')
                go_simp <;> with_reducible rfl
              try simp only [Act.put, List.setIfInBounds_toArray, List.set_cons_zero, List.set_cons_succ]
              refine wpAnyS_take (i := 8) (v := ?_) rfl (by kernel_rfl) (fun _ _ _ h => h) (by rfl) hSa ?_ ?_
              rotate_left
              · intro w' hS'
                (try dsimp only at hS')
                go_simp <;> with_reducible rfl
              try simp only [Act.put, List.setIfInBounds_toArray, List.set_cons_zero, List.set_cons_succ]
              refine wpAnyS_take (i := 9) (v := ?_) rfl (by kernel_rfl) (fun _ _ _ h => h) (by rfl) hSa ?_ ?_
              rotate_left
              · intro w' hS'
                (try dsimp only at hS')
                go_simp <;> with_reducible rfl
              try simp only [Act.put, List.setIfInBounds_toArray, List.set_cons_zero, List.set_cons_succ]
              refine wpAnyS_take (i := 10) (v := ?_) rfl (by kernel_rfl) (fun _ _ _ h => h) (by rfl) hSa ?_ ?_
              rotate_left
              · intro w' hS'
                (try dsimp only at hS')
                go_simp <;> with_reducible rfl
              try simp only [Act.put, List.setIfInBounds_toArray, List.set_cons_zero, List.set_cons_succ]
              refine wpAnyS_take (i := 11) (v := ?_) rfl (by kernel_rfl) (fun _ _ _ h => h) (by rfl) hSa ?_ ?_
              rotate_left
              · intro w' hS'
                (try dsimp only at hS')
                go_simp <;> with_reducible rfl
              try simp only [Act.put, List.setIfInBounds_toArray, List.set_cons_zero, List.set_cons_succ]
              refine wpAnyS_take (i := 12) (v := ?_) rfl (by kernel_rfl) (fun _ _ _ h => h) (by rfl) hSa ?_ ?_
              rotate_left
              · intro w' hS'
                have cm0 := m0 _ hS'
                go_simp <;> with_reducible rfl
              try simp only [Act.put, List.setIfInBounds_toArray, List.set_cons_zero, List.set_cons_succ]
              refine wpAnyS_take (i := 13) (v := ?_) rfl (by kernel_rfl) (fun _ _ _ h => h) (by rfl) hSa ?_ ?_
              rotate_left
              · intro w' hS'
                (try dsimp only at hS')
                go_simp <;> with_reducible rfl
              try simp only [Act.put, List.setIfInBounds_toArray, List.set_cons_zero, List.set_cons_succ]
              refine wpAnyS_take (i := 14) (v := ?_) rfl (by kernel_rfl) (fun _ _ _ h => h) (by rfl) hSa ?_ ?_
              rotate_left
              · intro w' hS'
                (try dsimp only at hS')
                go_simp <;> with_reducible rfl
              try simp only [Act.put, List.setIfInBounds_toArray, List.set_cons_zero, List.set_cons_succ]
              refine wpAnyS_take (i := 15) (v := ?_) rfl (by kernel_rfl) (fun _ _ _ h => h) (by rfl) hSa ?_ ?_
              rotate_left
              · intro w' hS'
                (try dsimp only at hS')
                go_simp <;> with_reducible rfl
              try simp only [Act.put, List.setIfInBounds_toArray, List.set_cons_zero, List.set_cons_succ]
              refine wpAnyS_take (i := 16) (v := ?_) rfl (by kernel_rfl) (fun _ _ _ h => h) (by rfl) hSa ?_ ?_
              rotate_left
              · intro w' hS'
                (try dsimp only at hS')
                go_simp <;> with_reducible rfl
              try simp only [Act.put, List.setIfInBounds_toArray, List.set_cons_zero, List.set_cons_succ]
              refine wpAnyS_skip (i := 17) rfl (by kernel_rfl) (fun _ _ _ h => h) (by rfl) hSa ?_
              try simp only [Act.put, List.setIfInBounds_toArray, List.set_cons_zero, List.set_cons_succ]
              refine wpAnyS_skip (i := 18) rfl (by kernel_rfl) (fun _ _ _ h => h) (by rfl) hSa ?_
              try simp only [Act.put, List.setIfInBounds_toArray, List.set_cons_zero, List.set_cons_succ]
              refine wpAnyS_skip (i := 19) rfl (by kernel_rfl) (fun _ _ _ h => h) (by rfl) hSa ?_
              try simp only [Act.put, List.setIfInBounds_toArray, List.set_cons_zero, List.set_cons_succ]
              refine wpAnyS_skip (i := 20) rfl (by kernel_rfl) (fun _ _ _ h => h) (by rfl) hSa ?_
              try simp only [Act.put, List.setIfInBounds_toArray, List.set_cons_zero, List.set_cons_succ]
              refine wpAnyS_skip (i := 21) rfl (by kernel_rfl) (fun _ _ _ h => h) (by rfl) hSa ?_
              try simp only [Act.put, List.setIfInBounds_toArray, List.set_cons_zero, List.set_cons_succ]
              refine wpAnyS_skip (i := 22) rfl (by kernel_rfl) (fun _ _ _ h => h) (by rfl) hSa ?_
              try simp only [Act.put, List.setIfInBounds_toArray, List.set_cons_zero, List.set_cons_succ]
              refine wpAnyS_skip (i := 23) rfl (by kernel_rfl) (fun _ _ _ h => h) (by rfl) hSa ?_
              try simp only [Act.put, List.setIfInBounds_toArray, List.set_cons_zero, List.set_cons_succ]
              refine wpAnyS_skip (i := 24) rfl (by kernel_rfl) (fun _ _ _ h => h) (by rfl) hSa ?_
              try simp only [Act.put, List.setIfInBounds_toArray, List.set_cons_zero, List.set_cons_succ]
              refine wpAnyS_skip (i := 25) rfl (by kernel_rfl) (fun _ _ _ h => h) (by rfl) hSa ?_
              try simp only [Act.put, List.setIfInBounds_toArray, List.set_cons_zero, List.set_cons_succ]
              refine wpAnyS_last (i := 26) rfl (by kernel_rfl) (by decide) (by kernel_rfl) (by rfl) fun K hK => ?_
              go_simp
              refine hK.out _ _ ?_
              clear hK K ha hb
              have Hf2 := Lib.hid (Fr.trans0 Hf.out hSa)
              clear hSa k0 k1 k2 k3 k4 m0 m1 m2 m3 m4
              go_wp2_with fail
              go_roundw
              case rel => exact ⟨j + 1, by omega, by omega, by go_num, HP2.out, Hf2.out⟩
              case measure => simp [intOf]; omega
            | true =>
              rw [hb] at HP2
              go_wp2_with fail
              refine wp_region_sink 26 (KeptN wo) (by kernel_rfl) ?_
              have hSa : KeptN wo wo.drew := KeptN.start _
              refine wpAnyS_take (i := 0) (v := ?_) rfl (by kernel_rfl) (fun _ _ _ h => h) (by rfl) hSa ?_ ?_
              rotate_left
              · intro w' hS'
                (try dsimp only at hS')
                go_simp <;> with_reducible rfl
              try simp only [Act.put, List.setIfInBounds_toArray, List.set_cons_zero, List.set_cons_succ]
              refine wpAnyS_take (i := 1) (v := ?_) rfl (by kernel_rfl) (fun _ _ _ h => h) (by rfl) hSa ?_ ?_
              rotate_left
              · intro w' hS'
                (try dsimp only at hS')
                go_simp <;> with_reducible rfl
              try simp only [Act.put, List.setIfInBounds_toArray, List.set_cons_zero, List.set_cons_succ]
              refine wpAnyS_take (i := 2) (v := ?_) rfl (by kernel_rfl) (fun _ _ _ h => h) (by rfl) hSa ?_ ?_
              rotate_left
              · intro w' hS'
                (try dsimp only at hS')
                go_simp <;> with_reducible rfl
              try simp only [Act.put, List.setIfInBounds_toArray, List.set_cons_zero, List.set_cons_succ]
              refine wpAnyS_take (i := 3) (v := ?_) rfl (by kernel_rfl) (fun _ _ _ h => h) (by rfl) hSa ?_ ?_
              rotate_left
              · intro w' hS'
                (try dsimp only at hS')
                go_simp <;> with_reducible rfl
              try simp only [Act.put, List.setIfInBounds_toArray, List.set_cons_zero, List.set_cons_succ]
              refine wpAnyS_take (i := 4) (v := ?_) rfl (by kernel_rfl) (fun _ _ _ h => h) (by rfl) hSa ?_ ?_
              rotate_left
              · intro w' hS'
                have ck0 := k0 _ hS'
                go_simp <;> with_reducible rfl
              try simp only [Act.put, List.setIfInBounds_toArray, List.set_cons_zero, List.set_cons_succ]
              refine wpAnyS_take (i := 5) (v := ?_) rfl (by kernel_rfl) (fun _ _ _ h => h) (by rfl) hSa ?_ ?_
              rotate_left
              · intro w' hS'
                (try dsimp only at hS')
                go_simp <;> with_reducible rfl
              try simp only [Act.put, List.setIfInBounds_toArray, List.set_cons_zero, List.set_cons_succ]
              refine wpAnyS_take (i := 6) (v := ?_) rfl (by kernel_rfl) (fun _ _ _ h => h) (by rfl) hSa ?_ ?_
              rotate_left
              · intro w' hS'
                (try dsimp only at hS')
                go_simp <;> with_reducible rfl
              try simp only [Act.put, List.setIfInBounds_toArray, List.set_cons_zero, List.set_cons_succ]
              refine wpAnyS_take (i := 7) (v := ?_) rfl (by kernel_rfl) (fun _ _ _ h => h) (by rfl) hSa ?_ ?_
              rotate_left
              · intro w' hS'
                (try dsimp only at hS')
                go_simp <;> with_reducible rfl
              try simp only [Act.put, List.setIfInBounds_toArray, List.set_cons_zero, List.set_cons_succ]
              refine wpAnyS_take (i := 8) (v := ?_) rfl (by kernel_rfl) (fun _ _ _ h => h) (by rfl) hSa ?_ ?_
              rotate_left
              · intro w' hS'
                (try dsimp only at hS')
                go_simp <;> with_reducible rfl
              try simp only [Act.put, List.setIfInBounds_toArray, List.set_cons_zero, List.set_cons_succ]
              refine wpAnyS_take (i := 9) (v := ?_) rfl (by kernel_rfl) (fun _ _ _ h => h) (by rfl) hSa ?_ ?_
              rotate_left
              · intro w' hS'
                (try dsimp only at hS')
                go_simp <;> with_reducible rfl
              try simp only [Act.put, List.setIfInBounds_toArray, List.set_cons_zero, List.set_cons_succ]
              refine wpAnyS_take (i := 10) (v := ?_) rfl (by kernel_rfl) (fun _ _ _ h => h) (by rfl) hSa ?_ ?_
              rotate_left
              · intro w' hS'
                (try dsimp only at hS')
                go_simp <;> with_reducible rfl
              try simp only [Act.put, List.setIfInBounds_toArray, List.set_cons_zero, List.set_cons_succ]
              refine wpAnyS_take (i := 11) (v := ?_) rfl (by kernel_rfl) (fun _ _ _ h => h) (by rfl) hSa ?_ ?_
              rotate_left
              · intro w' hS'
                (try dsimp only at hS')
                go_simp <;> with_reducible rfl
              try simp only [Act.put, List.setIfInBounds_toArray, List.set_cons_zero, List.set_cons_succ]
              refine wpAnyS_take (i := 12) (v := ?_) rfl (by kernel_rfl) (fun _ _ _ h => h) (by rfl) hSa ?_ ?_
              rotate_left
              · intro w' hS'
                have cm0 := m0 _ hS'
                go_simp <;> with_reducible rfl
              try simp only [Act.put, List.setIfInBounds_toArray, List.set_cons_zero, List.set_cons_succ]
              refine wpAnyS_take (i := 13) (v := ?_) rfl (by kernel_rfl) (fun _ _ _ h => h) (by rfl) hSa ?_ ?_
              rotate_left
              · intro w' hS'
                (try dsimp only at hS')
                go_simp <;> with_reducible rfl
              try simp only [Act.put, List.setIfInBounds_toArray, List.set_cons_zero, List.set_cons_succ]
              refine wpAnyS_take (i := 14) (v := ?_) rfl (by kernel_rfl) (fun _ _ _ h => h) (by rfl) hSa ?_ ?_
              rotate_left
              · intro w' hS'
                (try dsimp only at hS')
                go_simp <;> with_reducible rfl
              try simp only [Act.put, List.setIfInBounds_toArray, List.set_cons_zero, List.set_cons_succ]
              refine wpAnyS_take (i := 15) (v := ?_) rfl (by kernel_rfl) (fun _ _ _ h => h) (by rfl) hSa ?_ ?_
              rotate_left
              · intro w' hS'
                (try dsimp only at hS')
                go_simp <;> with_reducible rfl
              try simp only [Act.put, List.setIfInBounds_toArray, List.set_cons_zero, List.set_cons_succ]
              refine wpAnyS_take (i := 16) (v := ?_) rfl (by kernel_rfl) (fun _ _ _ h => h) (by rfl) hSa ?_ ?_
              rotate_left
              · intro w' hS'
                (try dsimp only at hS')
                go_simp <;> with_reducible rfl
              try simp only [Act.put, List.setIfInBounds_toArray, List.set_cons_zero, List.set_cons_succ]
              refine wpAnyS_take (i := 17) (v := ?_) rfl (by kernel_rfl) (fun _ _ _ h => h) (by rfl) hSa ?_ ?_
              rotate_left
              · intro w' hS'
                (try dsimp only at hS')
                go_simp <;> with_reducible rfl
              try simp only [Act.put, List.setIfInBounds_toArray, List.set_cons_zero, List.set_cons_succ]
              refine wpAnyS_take (i := 18) (v := ?_) rfl (by kernel_rfl) (fun _ _ _ h => h) (by rfl) hSa ?_ ?_
              rotate_left
              · intro w' hS'
                (try dsimp only at hS')
                go_simp <;> with_reducible rfl
              try simp only [Act.put, List.setIfInBounds_toArray, List.set_cons_zero, List.set_cons_succ]
              refine wpAnyS_take (i := 19) (v := ?_) rfl (by kernel_rfl) (fun _ _ _ h => h) (by rfl) hSa ?_ ?_
              rotate_left
              · intro w' hS'
                (try dsimp only at hS')
                go_simp <;> with_reducible rfl
              try simp only [Act.put, List.setIfInBounds_toArray, List.set_cons_zero, List.set_cons_succ]
              refine wpAnyS_take (i := 20) (v := ?_) rfl (by kernel_rfl) (fun _ _ _ h => h) (by rfl) hSa ?_ ?_
              rotate_left
              · intro w' hS'
                have ck0 := k0 _ hS'
                have ck1 := k1 _ hS'
                have ck2 := k2 _ hS'
                have ck3 := k3 _ hS'
                have ck4 := k4 _ hS'
                go_simp <;> with_reducible rfl
              try simp only [Act.put, List.setIfInBounds_toArray, List.set_cons_zero, List.set_cons_succ]
              refine wpAnyS_take (i := 21) (v := ?_) rfl (by kernel_rfl) (fun _ _ _ h => h) (by rfl) hSa ?_ ?_
              rotate_left
              · intro w' hS'
                (try dsimp only at hS')
                go_simp <;> with_reducible rfl
              try simp only [Act.put, List.setIfInBounds_toArray, List.set_cons_zero, List.set_cons_succ]
              refine wpAnyS_take (i := 22) (v := ?_) rfl (by kernel_rfl) (fun _ _ _ h => h) (by rfl) hSa ?_ ?_
              rotate_left
              · intro w' hS'
                (try dsimp only at hS')
                go_simp <;> with_reducible rfl
              try simp only [Act.put, List.setIfInBounds_toArray, List.set_cons_zero, List.set_cons_succ]
              refine wpAnyS_take (i := 23) (v := ?_) rfl (by kernel_rfl) (fun _ _ _ h => h) (by rfl) hSa ?_ ?_
              rotate_left
              · intro w' hS'
                (try dsimp only at hS')
                go_simp <;> with_reducible rfl
              try simp only [Act.put, List.setIfInBounds_toArray, List.set_cons_zero, List.set_cons_succ]
              refine wpAnyS_take (i := 24) (v := ?_) rfl (by kernel_rfl) (fun _ _ _ h => h) (by rfl) hSa ?_ ?_
              rotate_left
              · intro w' hS'
                have cm0 := m0 _ hS'
                have cm1 := m1 _ hS'
                have cm2 := m2 _ hS'
                have cm3 := m3 _ hS'
                have cm4 := m4 _ hS'
                go_simp <;> with_reducible rfl
              try simp only [Act.put, List.setIfInBounds_toArray, List.set_cons_zero, List.set_cons_succ]
              refine wpAnyS_one (i := 25) rfl (by kernel_rfl) (by decide) (by rfl) fun K hK => ?_
              go_simp
              refine (rconflict_any t u _).mono ?_
              rintro e w2 ⟨rfl, hf2⟩
              have hSb : KeptN wo w2 := Fr.trans0 hSa hf2
              refine hK.out _ _ hSb ?_
              clear hK K
              try simp only [Act.put, List.setIfInBounds_toArray, List.set_cons_zero, List.set_cons_succ]
              generalize conf t u = cf at *
              have Hf2 := Lib.hid (Fr.trans0 Hf.out hSb)
              cases cf with
              | false =>
                refine wpAnyS_last (i := 26) rfl (by kernel_rfl) (by decide) (by kernel_rfl) (by rfl) fun K hK => ?_
                go_simp
                refine hK.out _ _ ?_
                clear hK K ha hb hSa hSb hf2 k0 k1 k2 k3 k4 m0 m1 m2 m3 m4
                go_wp2_with fail
                go_roundw
                case rel => exact ⟨j + 1, by omega, by omega, by go_num, HP2.out, Hf2.out⟩
                case measure => simp [intOf]; omega
              | true =>
                refine wpAnyS_last (i := 26) rfl (by kernel_rfl) (by decide) (by kernel_rfl) (by rfl) fun K hK => ?_
                go_simp
                refine hK.out _ _ ?_
                clear hK K ha hb hSa hSb hf2 k0 k1 k2 k3 k4 m0 m1 m2 m3 m4
                have HP3 : Hid (ptsP a b ts = true) := by
                  have : ptsP a b ts = true := by rw [HP2.out]; rfl
                  exact this
                go_wp2_with fail
                go_ret
                exact ⟨by rw [HP3.out]; rfl, Hf2.out⟩
        · obtain rfl : j = ts.length := by omega
          have HP2 : Hid (ptsP a b ts = ptsP a b (ts.drop (i + 1))) := by
            have : ptsP a b ts = ptsP a b (ts.drop (i + 1)) := by
              have h1 := HP.out
              rw [List.drop_length] at h1
              simpa using h1
            exact this
          go_wp2_with fail
          go_roundw
          case rel => exact ⟨i + 1, by omega, by go_num, HP2.out, Hf.out⟩
          case measure => simp [intOf]; omega
    · obtain rfl : i = ts.length := by omega
      have HP2 : Hid (ptsP a b ts = false) := by
        have := HP.out
        rw [List.drop_length] at this
        exact this
      go_wp2_with fail
      go_ret
      exact ⟨by rw [HP2.out]; rfl, Hf.out⟩
end Go.Proofs.Ytegejcmihojhbaa
