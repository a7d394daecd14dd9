/-
  The document's history (interlockref19): walk of Graph.
  No condition but sizes.
-/
import Derived.Test.YtegejcmihojhbaaHgRows
namespace Go.Proofs.Ytegejcmihojhbaa
open Go Go.RowKit

theorem sltR2 : SlT Try.prog 25 28 1 24 := SlT.mk (z := .slice none 0 0) Try.underlying25 (by kernel_rfl) (by rfl) (by decide) (by decide)

set_option maxRecDepth 100000 in
set_option maxHeartbeats 4000000 in
theorem rgraph_any (wv : Value) (ta : Option Addr) (tcap : Nat) (who : List Int) (ts : List TouchD) (w : World) (hw : IntsAt w wv who) (hwl : who.length ≤ 1000) (h : TouchesAt w (.slice ta ts.length tcap) ts) (hl : ts.length ≤ 1000) :
    Calls Try.prog 24 #[wv, .slice ta ts.length tcap] w (GraphRet who ts w) := by
  obtain ⟨ig, hig, hz0, hz1, hz2⟩ := info_parts (P := Try.prog) (e := 28) (z := .slice none 0 0) (size := 1) (bytes := 24) (by kernel_rfl)
  obtain ⟨wa, wcap, rfl⟩ := hw.shape
  have HW := Lib.hid hw
  have HT := Lib.hid h
  clear hw h
  have Hb1 : Hid (ig.bytes * who.length ≤ 281474976710656) := by
    have : ig.bytes * who.length ≤ 281474976710656 := by rw [hz2]; omega
    exact this
  have Hb2 : Hid (who.length ≤ maxLen) := by
    have : who.length ≤ maxLen := by unfold maxLen; omega
    exact this
  go_enter Try.func24, Try.ntmps24
  go_wp2_with (first | (at_make; refine wpList_make_full _ rfl _ _ 25 rfl 0 28 ig (.slice none 0 0) 1 Try.underlying25 hig hz0 hz1 _ _ _ _ who.length rfl rfl rfl rfl Hb1.out Hb2.out (Nat.zero_le _) ?_; intro w1 hown hgr) | (fail))
  have hf1 : Fr w w1 Nil := (Fr.refl w Nil).grown hgr fun j hj => by cases hj
  obtain ⟨vs0, hown1, hrk0⟩ := rows_made (w := w) (B := w.heap.size) hown
  have hgbl : w.heap.size < w1.heap.size := by
    obtain ⟨cur, hc⟩ := gb_type hown1
    exact (Array.getElem?_eq_some_iff.1 hc).1
  have HO0 := Lib.hid hown1
  have HR0 := Lib.hid (hrk0 w1)
  rw [rG_zero who ts] at HR0
  have Hf1 := Lib.hid hf1
  obtain ⟨gb, hgb⟩ : ∃ gb, w.heap.size = gb := ⟨_, rfl⟩
  have HGB := Lib.hid (Nat.le_of_eq hgb)
  clear hgr hown hown1 hrk0 hf1
  rw [hgb] at HO0 ⊢
  clear hgb hgbl
  go_wp2_with fail
  go_loopw [6, 7] (fun vi _ wr => ∃ (i : Nat) (vs : List Value), i ≤ who.length ∧ vi = .int .i64 i ∧ wr.ownsRow 0 28 1 (.slice (some ⟨gb, 0, none⟩) who.length who.length) who.length vs ∧ RowsOk wr w.heap.size vs (rG who ts i 0) ∧ Fr w wr Nil) (fun vi _ _ => who.length - (intOf vi).toNat)
  case atStart => exact ⟨0, vs0, by omega, rfl, HO0.out, HR0.out, Hf1.out⟩
  case round =>
    clear HO0 HR0 Hf1
    obtain ⟨i, vs, hi, rfl, hro, hrk, hf⟩ := hrel
    have HO := Lib.hid hro
    have HR := Lib.hid hrk
    have Hf := Lib.hid hf
    obtain ⟨wo, rfl⟩ : ∃ wo : World, wo = wr := ⟨_, rfl⟩
    clear hro hrk hf
    by_cases hlt : i < who.length
    · go_wp2_with fail
      go_loopw [7] (fun vk wr => ∃ (k : Nat) (vs : List Value), k ≤ who.length ∧ vk = .int .i64 k ∧ wr.ownsRow 0 28 1 (.slice (some ⟨gb, 0, none⟩) who.length who.length) who.length vs ∧ RowsOk wr w.heap.size vs (rG who ts i k) ∧ Fr w wr Nil) (fun vk _ => who.length - (intOf vk).toNat)
      case atStart => exact ⟨0, vs, by omega, rfl, HO.out, HR.out, Hf.out⟩
      case round =>
        clear HO HR Hf
        obtain ⟨k, vs, hk, rfl, hro, hrk, hf⟩ := hrel
        have HO := Lib.hid hro
        have HR := Lib.hid hrk
        have Hf := Lib.hid hf
        obtain ⟨wi, rfl⟩ : ∃ wi : World, wi = wr := ⟨_, rfl⟩
        clear hro hrk hf
        by_cases hlk : k < who.length
        · obtain ⟨wb, woff, wcap2, hwv, hwc⟩ := (HW.out.fr Hf.out fun _ _ h => h).form (by omega)
          simp only [Value.slice.injEq, true_and] at hwv
          obtain ⟨rfl, rfl⟩ := hwv
          have c0 := hwc i _ (List.getElem?_eq_getElem hlt)
          have c1 := hwc k _ (List.getElem?_eq_getElem hlk)
          have HP0 : Hid (who.getD i 0 = who[i]) := by
            have : who.getD i 0 = who[i] := by simp [List.getD_eq_getElem?_getD, hlt]
            exact this
          have HP1 : Hid (who.getD k 0 = who[k]) := by
            have : who.getD k 0 = who[k] := by simp [List.getD_eq_getElem?_getD, hlk]
            exact this
          generalize who[i] = x at c0 HP0
          generalize who[k] = y at c1 HP1
          have k0 := KeptN.cell c0
          have k1 := KeptN.cell c1
          have hil : (i : Int) < (who.length : Int) := by omega
          have hkl : (k : Int) < (who.length : Int) := by omega
          clear hwc c0 c1
          go_wp2_with fail
          refine wp_region_sink 9 (KeptN wi) (by kernel_rfl) ?_
          have hSa : KeptN wi wi.drew := KeptN.start _
          refine wpAnyS_take (i := 0) (v := ?_) rfl (by kernel_rfl) (fun _ _ _ h => h) (by rfl) hSa ?_ ?_
          rotate_left
          · intro w' hS'
            (try dsimp only at hS')
            go_simp <;> with_reducible rfl
          try simp only [Act.put, List.setIfInBounds_toArray, List.set_cons_zero, List.set_cons_succ]
          refine wpAnyS_take (i := 1) (v := ?_) rfl (by kernel_rfl) (fun _ _ _ h => h) (by rfl) hSa ?_ ?_
          rotate_left
          · intro w' hS'
            (try dsimp only at hS')
            go_simp <;> with_reducible rfl
          try simp only [Act.put, List.setIfInBounds_toArray, List.set_cons_zero, List.set_cons_succ]
          refine wpAnyS_take (i := 2) (v := ?_) rfl (by kernel_rfl) (fun _ _ _ h => h) (by rfl) hSa ?_ ?_
          rotate_left
          · intro w' hS'
            (try dsimp only at hS')
            go_simp <;> with_reducible rfl
          try simp only [Act.put, List.setIfInBounds_toArray, List.set_cons_zero, List.set_cons_succ]
          refine wpAnyS_take (i := 3) (v := ?_) rfl (by kernel_rfl) (fun _ _ _ h => h) (by rfl) hSa ?_ ?_
          rotate_left
          · intro w' hS'
            have ck0 := k0 _ hS'
            go_simp <;> with_reducible rfl
          try simp only [Act.put, List.setIfInBounds_toArray, List.set_cons_zero, List.set_cons_succ]
          refine wpAnyS_take (i := 4) (v := ?_) rfl (by kernel_rfl) (fun _ _ _ h => h) (by rfl) hSa ?_ ?_
          rotate_left
          · intro w' hS'
            (try dsimp only at hS')
            go_simp <;> with_reducible rfl
          try simp only [Act.put, List.setIfInBounds_toArray, List.set_cons_zero, List.set_cons_succ]
          refine wpAnyS_take (i := 5) (v := ?_) rfl (by kernel_rfl) (fun _ _ _ h => h) (by rfl) hSa ?_ ?_
          rotate_left
          · intro w' hS'
            (try dsimp only at hS')
            go_simp <;> with_reducible rfl
          try simp only [Act.put, List.setIfInBounds_toArray, List.set_cons_zero, List.set_cons_succ]
          refine wpAnyS_take (i := 6) (v := ?_) rfl (by kernel_rfl) (fun _ _ _ h => h) (by rfl) hSa ?_ ?_
          rotate_left
          · intro w' hS'
            (try dsimp only at hS')
            go_simp <;> with_reducible rfl
          try simp only [Act.put, List.setIfInBounds_toArray, List.set_cons_zero, List.set_cons_succ]
          refine wpAnyS_take (i := 7) (v := ?_) rfl (by kernel_rfl) (fun _ _ _ h => h) (by rfl) hSa ?_ ?_
          rotate_left
          · intro w' hS'
            have ck1 := k1 _ hS'
            go_simp <;> with_reducible rfl
          try simp only [Act.put, List.setIfInBounds_toArray, List.set_cons_zero, List.set_cons_succ]
          refine wpAnyS_take (i := 8) (v := ?_) rfl (by kernel_rfl) (fun _ _ _ h => h) (by rfl) hSa ?_ ?_
          rotate_left
          · intro w' hS'
            (try dsimp only at hS')
            go_simp <;> with_reducible rfl
          try simp only [Act.put, List.setIfInBounds_toArray, List.set_cons_zero, List.set_cons_succ]
          refine wpAnyS_last (i := 9) rfl (by kernel_rfl) (by decide) (by kernel_rfl) (by rfl) fun K hK => ?_
          go_simp
          refine (rpoints_any x y ta tcap ts _ (SlAt.fr0 HT.out (Fr.trans0 Hf.out hSa)) hl).mono ?_
          rintro e w2 ⟨rfl, hf2⟩
          refine hK.out _ _ ?_
          clear hK K
          have Hf2 : Hid (Fr wi w2 Nil) := Fr.trans0 hSa hf2
          clear hSa hf2 k0 k1
          have HO2 := Lib.hid (Hf2.out.own HO.out fun _ _ h => h)
          have HR2 := Lib.hid (HR.out.fr Hf2.out fun _ _ _ h => h)
          cases hp : ptsP x y ts with
          | false =>
            have HN : Hid (rG who ts i k = rG who ts i (k + 1)) := rG_skip (by rw [HP0.out, HP1.out]; exact hp)
            clear hp
            go_wp2_with fail
            go_roundw
            case rel => exact ⟨k + 1, vs, by omega, by go_num, HO2.out, by rw [← HN.out]; exact HR2.out, Hf.out.trans0 Hf2.out⟩
            case measure => simp [intOf]; omega
          | true =>
            have HN : Hid ((rG who ts i k).set i (ints (rowF who ts i k) ++ [(k : Int)]) = rG who ts i (k + 1)) := rG_put hlt (by rw [HP0.out, HP1.out]; exact hp)
            obtain ⟨u, hu, hux, hun⟩ := HR2.out.2.1 i _ (rG_at hlt)
            have hrl := rowF_len who ts i k
            rw [← ints_len] at hrl
            generalize ints (rowF who ts i k) = xs at *
            have q4 := World.ownsRow.cellAt HO2.out i (by omega)
            rw [hu] at q4
            obtain ⟨ua, ucap, rfl⟩ := hux.shape
            have Hu := Lib.hid hu
            have Hux := Lib.hid hux
            have Hun := Lib.hid hun
            have Hlen : Hid (xs.length + 1 ≤ 1000000) := by
              have : xs.length + 1 ≤ 1000000 := by omega
              exact this
            clear hp hu hux hun
            go_wp2_with (at_builtin; refine wpList_app _ rfl _ _ 28 rfl Try.sltInt (.slice ua xs.length ucap) rfl (World.ownsRow.alloc Hux.out _) _ rfl (one_at _ _ _ _ (by simp)) (ints_one _) Hlen.out ?_)
            intro a6 c6 w6 ho6 hg6 hat6
            have hF6 : Fr w2 w6 (fun k => (Value.slice ua xs.length ucap).ownBlock = some k) := ((Fr.refl w2 _).alloc _).grown hg6 fun k hk _ => hk
            have hro6 := hF6.own HO2.out (fun k hk hk2 => by
              cases hk
              obtain ⟨cur, hc⟩ := own_type Hux.out hk2
              obtain ⟨cur2, hc2⟩ := gb_type HO2.out
              rw [hc2] at hc; simp at hc)
            have y0 := World.ownsRow.cellAt hro6 i (by omega)
            have y1 := World.ownsRow.frozenAt hro6 i
            rw [Hu.out] at y0
            have HADD := Lib.hid (rows_put HGB.out (Hf.out.trans0 Hf2.out) HO2.out HR2.out Hu.out Hux.out Hun.out ho6 hg6 hat6)
            clear hF6 hro6 ho6 hg6 hat6 q4
            go_wp2_with fail
            go_roundw
            case rel => exact ⟨k + 1, _, by omega, by go_num, HADD.out.1, by rw [← HN.out]; exact HADD.out.2.1, HADD.out.2.2⟩
            case measure => simp [intOf]; omega
        · obtain rfl : k = who.length := by omega
          have HN := Lib.hid (rG_next who ts i)
          go_wp2_with fail
          go_roundw
          case rel => exact ⟨i + 1, vs, by omega, by go_num, HO.out, by rw [← HN.out]; exact HR.out, Hf.out⟩
          case measure => simp [intOf]; omega
    · obtain rfl : i = who.length := by omega
      have HN := Lib.hid (rG_done who ts)
      go_wp2_with fail
      go_ret
      exact ⟨gb, vs, rfl, HGB.out, HO.out, by rw [← HN.out]; exact HR.out, Hf.out⟩
end Go.Proofs.Ytegejcmihojhbaa
