/-
  The document's history (interlockref19): walk of Finished.
  No condition but sizes.
-/
import Derived.Test.YtegejcmihojhbaaHgFinP
import Derived.Test.YtegejcmihojhbaaHsNext
import Derived.Deep.QuietTactic
import Derived.BigQuiet
namespace Go.Proofs.Ytegejcmihojhbaa
open Go Go.RowKit

theorem new_of {B N : Nat} {v u : Value} (hf : B ≤ N) (h : v.ownBlock = u.ownBlock ∨ v.ownBlock = some N) (hu : NewFrom B u) : NewFrom B v := by
  intro k hk
  rcases h with h | h
  · exact hu k (h.symm.trans hk)
  · rw [h] at hk; cases hk; exact hf
theorem slice_len {a : Option Addr} {n m c : Nat} (h : n = m) : Value.slice a n c = Value.slice a m c := by rw [h]
theorem ob_len {a : Option Addr} {n m c j : Nat} (h : (Value.slice a n c).ownBlock = some j) : (Value.slice a m c).ownBlock = some j := by cases a <;> exact h
theorem own_ins {w : World} {a : Option Addr} {n c k : Nat} {xs : List Int} {x : Int} (h : w.ownsRow 0 2 1 (.slice a n c) n ((xs.map (Value.int .i64)).take k ++ .int .i64 x :: (xs.map (Value.int .i64)).drop k)) (hk : k ≤ xs.length) (hn : n = xs.length + 1) :
    OwnInts w 2 (.slice a (xs.take k ++ [x] ++ xs.drop k).length c) (xs.take k ++ [x] ++ xs.drop k) := by
  have e : (xs.take k ++ [x] ++ xs.drop k).length = n := by simp; omega
  unfold OwnInts
  rw [e, List.map_append, List.map_append, List.map_take, List.map_drop, List.append_assoc]
  exact h
theorem intz_one (xs : List Int) : ∀ u ∈ xs.map (Value.int .i64), u.oneCell' = true := by
  intro u hu
  obtain ⟨x, _, rfl⟩ := List.mem_map.1 hu
  rfl

set_option maxRecDepth 100000 in
set_option maxHeartbeats 8000000 in
theorem rfin_any (ta : Option Addr) (tcap : Nat) (ts : List AnsD) (w : World) (h : SlAt w 5 (.slice ta ts.length tcap) ts.length (ts.flatMap AnsD.vals0)) (hl : ts.length ≤ 1000) :
    Calls Try.prog 22 #[.slice ta ts.length tcap] w (FinRet ts w) := by
  have H := Lib.hid h
  clear h
  go_enter Try.func22, Try.ntmps22
  go_wp2_with fail
  go_loopw [3, 4, 5, 6] (fun vo vi _ _ wr => ∃ (i : Nat) (xs : List Int) (a : Option Addr) (cap : Nat), i ≤ ts.length ∧ vi = .int .i64 i ∧ vo = .slice a xs.length cap ∧ FinR ts i xs ∧ OwnInts wr 2 (.slice a xs.length cap) xs ∧ NewFrom w.heap.size (.slice a xs.length cap) ∧ Fr w wr Nil) (fun _ vi _ _ _ => ts.length - (intOf vi).toNat)
  case atStart => exact ⟨0, [], none, 0, by omega, rfl, rfl, FinR.zero _, World.ownsRow_nil _ _ _ _, (fun k hk => by cases hk), Fr.refl _ _⟩
  case round =>
    obtain ⟨i, xs, a, cap, hi, rfl, rfl, hr, ho, hb, hf⟩ := hrel
    have hxl : xs.length ≤ 1000 := by have := hr.2.2; omega
    have HR := Lib.hid hr
    have HO := Lib.hid ho
    have HB := Lib.hid hb
    have Hf := Lib.hid hf
    obtain ⟨wo, rfl⟩ : ∃ wo : World, wo = wr := ⟨_, rfl⟩
    clear hr ho hb hf
    by_cases hlt : i < ts.length
    · obtain ⟨tb, toff, tcap2, hv, hc⟩ := flat_form (n := 5) (f := AnsD.vals0) (fun _ => rfl) (by decide) (SlAt.fr0 H.out Hf.out) (by omega)
      simp only [Value.slice.injEq, true_and] at hv
      obtain ⟨rfl, rfl⟩ := hv
      have hit := List.getElem?_eq_getElem hlt
      generalize ts[i] = t at hit
      have c0 := hc i _ hit 0 _ rfl
      have c2 := hc i _ hit 2 _ rfl
      simp only [Nat.add_zero] at c0
      have hil : (i : Int) < (ts.length : Int) := by omega
      have HIT := Lib.hid hit
      obtain ⟨tw, tt, tr, tk, toa, ton, toc, tok⟩ := t
      simp only at c0 c2
      clear hc hit
      cases hcd : (tr == 0) with
      | false =>
        have hcn : (tr != 0) = true := by simp [bne, hcd]
        have HS := Lib.hid (HR.out.skip HIT.out hcd)
        clear hcd
        go_wp2_with fail
        go_roundw
        case rel => exact ⟨i + 1, xs, a, cap, by omega, by go_num, rfl, HS.out, HO.out, HB.out, Hf.out⟩
        case measure => simp [intOf]; omega
      | true =>
        have hcn : (tr != 0) = false := by simp [bne, hcd]
        have HCD := Lib.hid hcd
        clear hcd
        rcases HO.out.2 with ⟨hnil, hn0⟩ | ⟨g, cap', cur, hv, _, hg, hcap, _⟩
        · obtain rfl : xs = [] := List.eq_nil_of_length_eq_zero hn0
          simp only [List.length_nil, Value.slice.injEq, true_and] at hnil
          obtain ⟨rfl, rfl⟩ := hnil
          have HS : Hid (FinR ts (i + 1) (([] : List Int).take 0 ++ [tw] ++ ([] : List Int).drop 0)) := HR.out.ins HIT.out HCD.out (Gt.full _ _) (.inl rfl)
          have HT : Hid (∀ w', Fr wo w' Nil → SlAt w' 1 (.slice none 0 0) 0 ((([] : List Int).map (Value.int .i64)).take 0)) := fun w' _ => SlAt.nil w' 1
          have HD2 : Hid (∀ w', Fr wo w' Nil → SlAt w' 1 (.slice none 0 0) 0 ((([] : List Int).map (Value.int .i64)).drop 0)) := fun w' _ => SlAt.nil w' 1
          have HO1 : Hid (∀ u ∈ (([] : List Int).map (Value.int .i64)).take 0, u.oneCell' = true) := fun u hu => by simp at hu
          have HO2 : Hid (∀ u ∈ (([] : List Int).map (Value.int .i64)).drop 0, u.oneCell' = true) := fun u hu => by simp at hu
          go_wp2_with fail
          go_loopw [5] (fun vk wr => vk = .int .i64 0 ∧ Fr wo wr Nil) (fun vk _ => (intOf vk).toNat)
          case atStart => exact ⟨by first | rfl | simp, Fr.refl _ _⟩
          case round =>
            obtain ⟨rfl, hf2⟩ := hrel
            have Hf2 := Lib.hid hf2
            have x0 := hf2.cell c0 (fun h => h)
            obtain ⟨wi, rfl⟩ : ∃ wi : World, wi = wr := ⟨_, rfl⟩
            clear hf2
            go_wp2_with fail
            go_quiet (fail)
            go_wp2_with fail
            go_quiet (fail)
            go_wp2_with (at_builtin; refine wpList_app _ rfl _ _ _ rfl sl64 (.slice none 0 0) rfl (World.ownsRow_nil _ _ _ _) _ rfl (HT.out _ (Hf2.out.drewN _)) HO1.out (by omega) ?_)
            intro a4 c4 w4 ho hg4 hat
            try rw [Nat.zero_add] at ho
            try rw [Nat.zero_add] at hat
            try rw [List.nil_append] at ho
            try rw [Nat.zero_add]
            have Hn4 := Lib.hid (new_of Hf2.out.size hat (fun j hj => by cases hj))
            have hf4 := (Hf2.out.drewN _).grown hg4 (fun j hj _ => by cases hj)
            have r0 := hf4.cell c0 (fun h => h)
            have Ho4 := Lib.hid ho
            have Hf4 := Lib.hid hf4
            clear ho hg4 hat hf4
            go_wp2_with (at_builtin; refine wpList_app _ rfl _ _ _ rfl sl64 (.slice a4 0 c4) rfl (World.ownsRow.alloc Ho4.out _) _ rfl (one_at _ _ _ _ (by simp)) (ints_one _) (by omega) ?_)
            intro a6 c6 w6 ho hg6 hat
            have Hn6 := Lib.hid (new_of (Nat.le_succ_of_le Hf4.out.size) hat Hn4.out)
            have hf6 : Fr wo w6 Nil := (Hf4.out.alloc _).grown hg6 (fun j hj hlt => absurd hlt (by have := Hn4.out j hj; omega))
            have Ho6 := Lib.hid ho
            have Hf6 := Lib.hid hf6
            clear ho hg6 hat hf6 r0
            go_wp2_with (at_builtin; refine wpList_app _ rfl _ _ _ rfl sl64 (.slice a6 1 c6) rfl Ho6.out _ rfl (HD2.out _ Hf6.out) HO2.out (by omega) ?_)
            intro a7 c7 w7 ho hg7 hat
            have Hn7 := Lib.hid (new_of Hf6.out.size hat Hn6.out)
            have hf7 : Fr wo w7 Nil := Hf6.out.grown hg7 (fun j hj hlt => absurd hlt (by have := Hn6.out j hj; omega))
            have Ho7 := Lib.hid (own_ins (k := 0) (xs := ([] : List Int)) (x := tw) ho (by omega) (by first | omega | (simp; done) | (simp; omega)))
            have Hf7 := Lib.hid (Fr.trans0 Hf.out hf7)
            clear ho hg7 hat hf7
            go_wp2_with fail
            go_roundw
            case rel => exact ⟨i + 1, ([] : List Int).take 0 ++ [tw] ++ ([] : List Int).drop 0, a7, c7, by omega, by go_num, slice_len (by first | (simp; done) | (simp; omega)), HS.out, Ho7.out, fun j hj => Nat.le_trans Hf.out.size (Hn7.out j (ob_len hj)), Hf7.out⟩
            case measure => simp [intOf]; omega
        · simp only [Value.slice.injEq, true_and] at hv
          obtain ⟨rfl, rfl⟩ := hv
          clear hg
          go_wp2_with fail
          go_loopw [5] (fun vk wr => ∃ k : Nat, k ≤ xs.length ∧ vk = .int .i64 k ∧ Gt xs k tw ∧ Fr wo wr Nil) (fun vk _ => (intOf vk).toNat)
          case atStart => exact ⟨xs.length, by omega, rfl, Gt.full _ _, Fr.refl _ _⟩
          case round =>
            obtain ⟨k, hk, rfl, hgt, hf2⟩ := hrel
            have HG := Lib.hid hgt
            have Hf2 := Lib.hid hf2
            have x0 := hf2.cell c0 (fun h => h)
            obtain ⟨wi, rfl⟩ : ∃ wi : World, wi = wr := ⟨_, rfl⟩
            clear hgt hf2
            by_cases hk0 : 0 < k
            · have hkl : k - 1 < xs.length := by omega
              have hget := List.getElem?_eq_getElem hkl
              have q := (HO.out.fr Hf2.out (fun _ _ h => h)).cell rfl (k - 1) hkl
              rw [show xs.getD (k - 1) 0 = xs[k - 1] by simp [List.getD_eq_getElem?_getD, hkl]] at q
              generalize xs[k - 1] = y at hget q
              have HGE := Lib.hid hget
              have h1 : (0 : Int) ≤ (k : Int) - 1 := by omega
              have h2 : (k : Int) - 1 < (xs.length : Int) := by omega
              have h3 : (0 : Int) < (k : Int) := by omega
              clear hget c2
              cases hd : decide (tw < y) with
              | true =>
                have HGT := Lib.hid (HG.out.back hk0 HGE.out (of_decide_eq_true hd))
                go_wp2_with fail
                go_quiet (fail)
                go_wp2_with fail
                go_roundw
                case rel => exact ⟨k - 1, by omega, by go_num, HGT.out, Hf2.out.drewN _⟩
                case measure => simp [intOf]; omega
              | false =>
                cases he : (y == tw) with
                | true =>
                  have HS := Lib.hid (HR.out.dup HIT.out HCD.out (by rw [beq_iff_eq] at he; subst he; exact List.mem_of_getElem? HGE.out))
                  go_wp2_with fail
                  go_quiet (fail)
                  go_wp2_with fail
                  go_quiet (fail)
                  go_wp2_with fail
                  go_roundw
                  case rel => exact ⟨i + 1, xs, _, cap, by omega, by go_num, rfl, HS.out, OwnInts.fr HO.out (Hf2.out.drewN _) (fun _ _ h => h), HB.out, Fr.trans0 Hf.out (Hf2.out.drewN _)⟩
                  case measure => simp [intOf]; omega
                | false =>
                  have HS : Hid (FinR ts (i + 1) (xs.take k ++ [tw] ++ xs.drop k)) := HR.out.ins HIT.out HCD.out HG.out (.inr ⟨y, HGE.out, by
                    have h4 := of_decide_eq_false hd
                    rw [beq_eq_false_iff_ne] at he
                    show y < tw
                    omega⟩)
                  go_wp2_with fail
                  go_quiet (fail)
                  go_wp2_with fail
                  go_quiet (fail)
                  clear q hd he
                  have HT : Hid (∀ w', Fr wo w' Nil → SlAt w' 1 (.slice (some ⟨g, 0, none⟩) k cap) k ((xs.map (Value.int .i64)).take k)) := fun w' hf => by
                    have := ((SlAt.of_ints HO.out.at).fr0 hf).take (k := k) (c' := cap) (by omega) (fun e => by cases e)
                    rw [Nat.mul_one] at this
                    exact this
                  have HX : (cap = k ∧ Hid (∀ w', Fr wo w' Nil → SlAt w' 1 (.slice (some ⟨g, 0, none⟩) 0 0) 0 ((xs.map (Value.int .i64)).drop k))) ∨ (cap ≠ k ∧ Hid (∀ w', Fr wo w' Nil → SlAt w' 1 (.slice (some ⟨g, k, none⟩) (xs.length - k) (cap - k)) (xs.length - k) ((xs.map (Value.int .i64)).drop k))) := by
                    by_cases hc1 : cap = k
                    · refine .inl ⟨hc1, fun w' hf => ?_⟩
                      have := ((SlAt.of_ints HO.out.at).fr0 hf).drop (k := k) (by omega) hcap
                      rw [Nat.mul_one, if_pos hc1, show cap - k = 0 by omega, show xs.length - k = 0 by omega] at this
                      exact this
                    · refine .inr ⟨hc1, fun w' hf => ?_⟩
                      have := ((SlAt.of_ints HO.out.at).fr0 hf).drop (k := k) (by omega) hcap
                      rw [Nat.mul_one, if_neg hc1] at this
                      simp only [Option.map_some, Addr.add_lit, Nat.zero_add] at this
                      exact this
                  have HO1 : Hid (∀ u ∈ (xs.map (Value.int .i64)).take k, u.oneCell' = true) := fun u hu => intz_one xs u (List.mem_of_mem_take hu)
                  have HO2 : Hid (∀ u ∈ (xs.map (Value.int .i64)).drop k, u.oneCell' = true) := fun u hu => intz_one xs u (List.mem_of_mem_drop hu)
                  rcases HX with ⟨hc1, HD2⟩ | ⟨hc1, HD2⟩
                  · have hxk : xs.length = k := by omega
                    subst hc1
                    go_wp2_with (at_builtin; refine wpList_app _ rfl _ _ _ rfl sl64 (.slice none 0 0) rfl (World.ownsRow_nil _ _ _ _) _ rfl (HT.out _ (Hf2.out.drewN _)) HO1.out (by omega) ?_)
                    intro a4 c4 w4 ho hg4 hat
                    try rw [Nat.zero_add] at ho
                    try rw [Nat.zero_add] at hat
                    try rw [List.nil_append] at ho
                    try rw [Nat.zero_add]
                    have Hn4 := Lib.hid (new_of Hf2.out.size hat (fun j hj => by cases hj))
                    have hf4 := (Hf2.out.drewN _).grown hg4 (fun j hj _ => by cases hj)
                    have r0 := hf4.cell c0 (fun h => h)
                    have Ho4 := Lib.hid ho
                    have Hf4 := Lib.hid hf4
                    clear ho hg4 hat hf4
                    go_wp2_with (at_builtin; refine wpList_app _ rfl _ _ _ rfl sl64 (.slice a4 cap c4) rfl (World.ownsRow.alloc Ho4.out _) _ rfl (one_at _ _ _ _ (by simp)) (ints_one _) (by omega) ?_)
                    intro a6 c6 w6 ho hg6 hat
                    have Hn6 := Lib.hid (new_of (Nat.le_succ_of_le Hf4.out.size) hat Hn4.out)
                    have hf6 : Fr wo w6 Nil := (Hf4.out.alloc _).grown hg6 (fun j hj hlt => absurd hlt (by have := Hn4.out j hj; omega))
                    have Ho6 := Lib.hid ho
                    have Hf6 := Lib.hid hf6
                    clear ho hg6 hat hf6 r0
                    go_wp2_with (at_builtin; refine wpList_app _ rfl _ _ _ rfl sl64 (.slice a6 (cap + 1) c6) rfl Ho6.out _ rfl (HD2.out _ Hf6.out) HO2.out (by omega) ?_)
                    intro a7 c7 w7 ho hg7 hat
                    have Hn7 := Lib.hid (new_of Hf6.out.size hat Hn6.out)
                    have hf7 : Fr wo w7 Nil := Hf6.out.grown hg7 (fun j hj hlt => absurd hlt (by have := Hn6.out j hj; omega))
                    have Ho7 := Lib.hid (own_ins (k := cap) (xs := xs) (x := tw) ho (by omega) (by first | omega | (simp; done) | (simp; omega)))
                    have Hf7 := Lib.hid (Fr.trans0 Hf.out hf7)
                    clear ho hg7 hat hf7
                    go_wp2_with fail
                    go_roundw
                    case rel => exact ⟨i + 1, xs.take cap ++ [tw] ++ xs.drop cap, a7, c7, by omega, by go_num, slice_len (by first | (simp; done) | (simp; omega)), HS.out, Ho7.out, fun j hj => Nat.le_trans Hf.out.size (Hn7.out j (ob_len hj)), Hf7.out⟩
                    case measure => simp [intOf]; omega
                  · go_wp2_with (at_builtin; refine wpList_app _ rfl _ _ _ rfl sl64 (.slice none 0 0) rfl (World.ownsRow_nil _ _ _ _) _ rfl (HT.out _ (Hf2.out.drewN _)) HO1.out (by omega) ?_)
                    intro a4 c4 w4 ho hg4 hat
                    try rw [Nat.zero_add] at ho
                    try rw [Nat.zero_add] at hat
                    try rw [List.nil_append] at ho
                    try rw [Nat.zero_add]
                    have Hn4 := Lib.hid (new_of Hf2.out.size hat (fun j hj => by cases hj))
                    have hf4 := (Hf2.out.drewN _).grown hg4 (fun j hj _ => by cases hj)
                    have r0 := hf4.cell c0 (fun h => h)
                    have Ho4 := Lib.hid ho
                    have Hf4 := Lib.hid hf4
                    clear ho hg4 hat hf4
                    go_wp2_with (at_builtin; refine wpList_app _ rfl _ _ _ rfl sl64 (.slice a4 k c4) rfl (World.ownsRow.alloc Ho4.out _) _ rfl (one_at _ _ _ _ (by simp)) (ints_one _) (by omega) ?_)
                    intro a6 c6 w6 ho hg6 hat
                    have Hn6 := Lib.hid (new_of (Nat.le_succ_of_le Hf4.out.size) hat Hn4.out)
                    have hf6 : Fr wo w6 Nil := (Hf4.out.alloc _).grown hg6 (fun j hj hlt => absurd hlt (by have := Hn4.out j hj; omega))
                    have Ho6 := Lib.hid ho
                    have Hf6 := Lib.hid hf6
                    clear ho hg6 hat hf6 r0
                    go_wp2_with (at_builtin; refine wpList_app _ rfl _ _ _ rfl sl64 (.slice a6 (k + 1) c6) rfl Ho6.out _ rfl (HD2.out _ Hf6.out) HO2.out (by omega) ?_)
                    intro a7 c7 w7 ho hg7 hat
                    have Hn7 := Lib.hid (new_of Hf6.out.size hat Hn6.out)
                    have hf7 : Fr wo w7 Nil := Hf6.out.grown hg7 (fun j hj hlt => absurd hlt (by have := Hn6.out j hj; omega))
                    have Ho7 := Lib.hid (own_ins (k := k) (xs := xs) (x := tw) ho (by omega) (by first | omega | (simp; done) | (simp; omega)))
                    have Hf7 := Lib.hid (Fr.trans0 Hf.out hf7)
                    clear ho hg7 hat hf7
                    go_wp2_with fail
                    go_roundw
                    case rel => exact ⟨i + 1, xs.take k ++ [tw] ++ xs.drop k, a7, c7, by omega, by go_num, slice_len (by first | (simp; done) | (simp; omega)), HS.out, Ho7.out, fun j hj => Nat.le_trans Hf.out.size (Hn7.out j (ob_len hj)), Hf7.out⟩
                    case measure => simp [intOf]; omega
            · have HS : Hid (FinR ts (i + 1) (xs.take k ++ [tw] ++ xs.drop k)) := HR.out.ins HIT.out HCD.out HG.out (.inl (by omega))
              have h3 : decide (0 < k) = false := by simpa using hk0
              clear hk0
              go_wp2_with fail
              go_quiet (fail)
              go_wp2_with fail
              go_quiet (fail)
              have HT : Hid (∀ w', Fr wo w' Nil → SlAt w' 1 (.slice (some ⟨g, 0, none⟩) k cap) k ((xs.map (Value.int .i64)).take k)) := fun w' hf => by
                have := ((SlAt.of_ints HO.out.at).fr0 hf).take (k := k) (c' := cap) (by omega) (fun e => by cases e)
                rw [Nat.mul_one] at this
                exact this
              have HX : (cap = k ∧ Hid (∀ w', Fr wo w' Nil → SlAt w' 1 (.slice (some ⟨g, 0, none⟩) 0 0) 0 ((xs.map (Value.int .i64)).drop k))) ∨ (cap ≠ k ∧ Hid (∀ w', Fr wo w' Nil → SlAt w' 1 (.slice (some ⟨g, k, none⟩) (xs.length - k) (cap - k)) (xs.length - k) ((xs.map (Value.int .i64)).drop k))) := by
                by_cases hc1 : cap = k
                · refine .inl ⟨hc1, fun w' hf => ?_⟩
                  have := ((SlAt.of_ints HO.out.at).fr0 hf).drop (k := k) (by omega) hcap
                  rw [Nat.mul_one, if_pos hc1, show cap - k = 0 by omega, show xs.length - k = 0 by omega] at this
                  exact this
                · refine .inr ⟨hc1, fun w' hf => ?_⟩
                  have := ((SlAt.of_ints HO.out.at).fr0 hf).drop (k := k) (by omega) hcap
                  rw [Nat.mul_one, if_neg hc1] at this
                  simp only [Option.map_some, Addr.add_lit, Nat.zero_add] at this
                  exact this
              have HO1 : Hid (∀ u ∈ (xs.map (Value.int .i64)).take k, u.oneCell' = true) := fun u hu => intz_one xs u (List.mem_of_mem_take hu)
              have HO2 : Hid (∀ u ∈ (xs.map (Value.int .i64)).drop k, u.oneCell' = true) := fun u hu => intz_one xs u (List.mem_of_mem_drop hu)
              rcases HX with ⟨hc1, HD2⟩ | ⟨hc1, HD2⟩
              · have hxk : xs.length = k := by omega
                subst hc1
                go_wp2_with (at_builtin; refine wpList_app _ rfl _ _ _ rfl sl64 (.slice none 0 0) rfl (World.ownsRow_nil _ _ _ _) _ rfl (HT.out _ (Hf2.out.drewN _)) HO1.out (by omega) ?_)
                intro a4 c4 w4 ho hg4 hat
                try rw [Nat.zero_add] at ho
                try rw [Nat.zero_add] at hat
                try rw [List.nil_append] at ho
                try rw [Nat.zero_add]
                have Hn4 := Lib.hid (new_of Hf2.out.size hat (fun j hj => by cases hj))
                have hf4 := (Hf2.out.drewN _).grown hg4 (fun j hj _ => by cases hj)
                have r0 := hf4.cell c0 (fun h => h)
                have Ho4 := Lib.hid ho
                have Hf4 := Lib.hid hf4
                clear ho hg4 hat hf4
                go_wp2_with (at_builtin; refine wpList_app _ rfl _ _ _ rfl sl64 (.slice a4 cap c4) rfl (World.ownsRow.alloc Ho4.out _) _ rfl (one_at _ _ _ _ (by simp)) (ints_one _) (by omega) ?_)
                intro a6 c6 w6 ho hg6 hat
                have Hn6 := Lib.hid (new_of (Nat.le_succ_of_le Hf4.out.size) hat Hn4.out)
                have hf6 : Fr wo w6 Nil := (Hf4.out.alloc _).grown hg6 (fun j hj hlt => absurd hlt (by have := Hn4.out j hj; omega))
                have Ho6 := Lib.hid ho
                have Hf6 := Lib.hid hf6
                clear ho hg6 hat hf6 r0
                go_wp2_with (at_builtin; refine wpList_app _ rfl _ _ _ rfl sl64 (.slice a6 (cap + 1) c6) rfl Ho6.out _ rfl (HD2.out _ Hf6.out) HO2.out (by omega) ?_)
                intro a7 c7 w7 ho hg7 hat
                have Hn7 := Lib.hid (new_of Hf6.out.size hat Hn6.out)
                have hf7 : Fr wo w7 Nil := Hf6.out.grown hg7 (fun j hj hlt => absurd hlt (by have := Hn6.out j hj; omega))
                have Ho7 := Lib.hid (own_ins (k := cap) (xs := xs) (x := tw) ho (by omega) (by first | omega | (simp; done) | (simp; omega)))
                have Hf7 := Lib.hid (Fr.trans0 Hf.out hf7)
                clear ho hg7 hat hf7
                go_wp2_with fail
                go_roundw
                case rel => exact ⟨i + 1, xs.take cap ++ [tw] ++ xs.drop cap, a7, c7, by omega, by go_num, slice_len (by first | (simp; done) | (simp; omega)), HS.out, Ho7.out, fun j hj => Nat.le_trans Hf.out.size (Hn7.out j (ob_len hj)), Hf7.out⟩
                case measure => simp [intOf]; omega
              · go_wp2_with (at_builtin; refine wpList_app _ rfl _ _ _ rfl sl64 (.slice none 0 0) rfl (World.ownsRow_nil _ _ _ _) _ rfl (HT.out _ (Hf2.out.drewN _)) HO1.out (by omega) ?_)
                intro a4 c4 w4 ho hg4 hat
                try rw [Nat.zero_add] at ho
                try rw [Nat.zero_add] at hat
                try rw [List.nil_append] at ho
                try rw [Nat.zero_add]
                have Hn4 := Lib.hid (new_of Hf2.out.size hat (fun j hj => by cases hj))
                have hf4 := (Hf2.out.drewN _).grown hg4 (fun j hj _ => by cases hj)
                have r0 := hf4.cell c0 (fun h => h)
                have Ho4 := Lib.hid ho
                have Hf4 := Lib.hid hf4
                clear ho hg4 hat hf4
                go_wp2_with (at_builtin; refine wpList_app _ rfl _ _ _ rfl sl64 (.slice a4 k c4) rfl (World.ownsRow.alloc Ho4.out _) _ rfl (one_at _ _ _ _ (by simp)) (ints_one _) (by omega) ?_)
                intro a6 c6 w6 ho hg6 hat
                have Hn6 := Lib.hid (new_of (Nat.le_succ_of_le Hf4.out.size) hat Hn4.out)
                have hf6 : Fr wo w6 Nil := (Hf4.out.alloc _).grown hg6 (fun j hj hlt => absurd hlt (by have := Hn4.out j hj; omega))
                have Ho6 := Lib.hid ho
                have Hf6 := Lib.hid hf6
                clear ho hg6 hat hf6 r0
                go_wp2_with (at_builtin; refine wpList_app _ rfl _ _ _ rfl sl64 (.slice a6 (k + 1) c6) rfl Ho6.out _ rfl (HD2.out _ Hf6.out) HO2.out (by omega) ?_)
                intro a7 c7 w7 ho hg7 hat
                have Hn7 := Lib.hid (new_of Hf6.out.size hat Hn6.out)
                have hf7 : Fr wo w7 Nil := Hf6.out.grown hg7 (fun j hj hlt => absurd hlt (by have := Hn6.out j hj; omega))
                have Ho7 := Lib.hid (own_ins (k := k) (xs := xs) (x := tw) ho (by omega) (by first | omega | (simp; done) | (simp; omega)))
                have Hf7 := Lib.hid (Fr.trans0 Hf.out hf7)
                clear ho hg7 hat hf7
                go_wp2_with fail
                go_roundw
                case rel => exact ⟨i + 1, xs.take k ++ [tw] ++ xs.drop k, a7, c7, by omega, by go_num, slice_len (by first | (simp; done) | (simp; omega)), HS.out, Ho7.out, fun j hj => Nat.le_trans Hf.out.size (Hn7.out j (ob_len hj)), Hf7.out⟩
                case measure => simp [intOf]; omega
    · obtain rfl : i = ts.length := by omega
      go_wp2_with fail
      go_ret
      exact ⟨xs, a, cap, HR.out, rfl, HO.out, HB.out, Hf.out⟩
end Go.Proofs.Ytegejcmihojhbaa
