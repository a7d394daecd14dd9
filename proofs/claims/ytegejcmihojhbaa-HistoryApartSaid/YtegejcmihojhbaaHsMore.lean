/-
  The walk of HistoryMore: it answers true.
  No condition.
-/
import Derived.Test.YtegejcmihojhbaaHsWorks
import Derived.Test.YtegejcmihojhbaaHsLawPure
import Derived.Test.YtegejcmihojhbaaHsOf
namespace Go.Proofs.Ytegejcmihojhbaa
open Go Go.RowKit

theorem fr0i {w w' : World} {v : Value} {xs : List Int} (h : IntsAt w v xs) (hf : Fr w w' Nil) : IntsAt w' v xs := h.fr hf fun _ _ h => h
theorem app_snocE {e : TypeId} {B : Nat} {wr w' : World} {v v' : Value} {l : List Int} {x : Int} {o : Obj} (hn : NewFrom B v) (hB : B ≤ wr.heap.size)
    (ho : w'.ownsRow 0 e 1 v' (l.length + 1) (l.map (Value.int .i64) ++ [.int .i64 x])) (hg : (wr.alloc o).grownBy w' v.ownBlock) (hb : v'.ownBlock = v.ownBlock ∨ v'.ownBlock = some (wr.heap.size + 1)) :
    OwnInts w' e v' (l ++ [x]) ∧ NewFrom B v' ∧ Fr wr w' (fun j => v.ownBlock = some j) := by
  refine ⟨?_, fun k hk => ?_, ?_⟩
  · unfold OwnInts
    rw [List.length_append, List.map_append]
    exact ho
  · rcases hb with hb | hb
    · exact hn k (by rw [← hb, hk])
    · rw [hk] at hb; cases hb; omega
  · exact ((Fr.refl wr _).alloc o).grown hg fun k hk _ => hk
theorem take_has {zs : List Int} {j : Nat} {y : Int} (h : j < zs.length) : (zs.take (j + 1)).contains y = ((zs.take j).contains y || (zs.getD j 0 == y)) := by
  rw [List.take_succ_eq_append_getElem h, show zs.getD j 0 = zs[j] by simp [List.getD_eq_getElem?_getD, h]]
  rw [Bool.eq_iff_iff]
  simp only [List.contains_iff_mem, List.mem_append, List.mem_singleton, Bool.or_eq_true, beq_iff_eq]
  exact or_congr Iff.rfl eq_comm
theorem Try.sltI64 : SlT Try.prog 22 2 1 8 := SlT.mk Try.underlying22 (z := .int .i64 0) (by kernel_rfl) rfl (by decide) (by decide)
theorem Try.sltTouch : SlT Try.prog 23 46 5 40 := SlT.mk Try.underlying23 (z := .agg #[.int .i64 0, .int .i64 0, .bool false, .int .i64 0, .bool false]) (by kernel_rfl) rfl (by decide) (by decide)
theorem touch_ones (ts : List TouchD) : ∀ u ∈ ts.flatMap TouchD.vals, u.oneCell' = true := by
  intro u hu
  obtain ⟨t, _, ht⟩ := List.mem_flatMap.1 hu
  simp [TouchD.vals] at ht
  rcases ht with rfl | rfl | rfl | rfl | rfl <;> rfl
theorem own_touches {w : World} {v : Value} {n : Nat} {ts : List TouchD} {cs : List Value} (h : w.ownsRow 0 46 5 v n cs) (hn : n = ts.length) (hc : cs = ts.flatMap TouchD.vals) : TouchesAt w v ts ∧ CapOk v := by
  subst hn; subst hc
  exact SlAt.of_own h

set_option maxRecDepth 100000 in
set_option maxHeartbeats 4000000 in
theorem more_main (wv tv mv : Value) (who : List Int) (ts more : List TouchD) (w : World) (hw : IntsAt w wv who) (ht : TsAt w tv ts) (hm : TsAt w mv more) (hwf : ∀ x ∈ who, (Lit.int .i64 x).wf = true) (hwl : who.length ≤ 10) (htl : ts.length ≤ 40) (hml : more.length ≤ 40) :
    Calls Try.prog 3 #[wv, tv, mv] w fun e w' => e = .returned (.bool true) ∧ Fr w w' Nil := by
  obtain ⟨wa, wcap, rfl⟩ := hw.shape
  obtain ⟨ta, tcap, rfl, htc⟩ := ht.shape
  obtain ⟨ma, mcap, rfl, hmc⟩ := hm.shape
  have HW := Lib.hid hw
  have HT := Lib.hid ht
  have HM := Lib.hid hm
  have HWF := Lib.hid hwf
  clear hw ht hm hwf
  go_enter Try.func3, Try.ntmps3
  go_wp2_with fail
  go_loopw [7, 8, 9, 10] (fun vo vi _ _ wr => ∃ (k : Nat) (oa : Option Addr) (ocap : Nat), k ≤ who.length ∧ vi = .int .i64 k ∧ vo = .slice oa (ownTo [] (who.take k)).length ocap ∧ OwnInts wr 2 vo (ownTo [] (who.take k)) ∧ NewFrom w.heap.size vo ∧ Fr w wr Nil)
    (fun _ vi _ _ _ => who.length - (intOf vi).toNat)
  case atStart => exact ⟨0, none, 0, by omega, rfl, rfl, World.ownsRow_nil _ _ _ _, fun k hk => by simp [Value.ownBlock] at hk, Fr.refl _ _⟩
  case round =>
    obtain ⟨k, oa, ocap, hk, rfl, rfl, ho, hn, hf⟩ := hrel
    obtain ⟨wi, rfl⟩ : ∃ wi : World, wi = wr := ⟨_, rfl⟩
    have Ho := Lib.hid ho
    have Hn := Lib.hid hn
    have Hf := Lib.hid hf
    have HOK := Lib.hid (ownTo_ok who k)
    have hzl := (ownTo_ok who k).2.1
    clear ho hn hf
    by_cases hlt : k < who.length
    · obtain ⟨wb, woff, wcap2, hwv, hwc⟩ := (fr0i HW.out Hf.out).form (by omega)
      simp only [Value.slice.injEq, true_and] at hwv
      obtain ⟨rfl, rfl⟩ := hwv
      have q0 := hwc k _ (List.getElem?_eq_getElem hlt)
      have HOS : Hid (ownTo [] (who.take (k + 1)) = if (ownTo [] (who.take k)).contains who[k] then ownTo [] (who.take k) else ownTo [] (who.take k) ++ [who[k]]) := by
        have : ownTo [] (who.take (k + 1)) = if (ownTo [] (who.take k)).contains who[k] then ownTo [] (who.take k) else ownTo [] (who.take k) ++ [who[k]] := by
          rw [List.take_succ_eq_append_getElem hlt, ownTo_snoc]
        exact this
      generalize who[k] = x at *
      generalize ownTo [] (who.take k) = zs at *
      have hki : (k : Int) < (who.length : Int) := by omega
      clear hwc
      go_wp2_with fail
      go_loopw [9, 10] (fun vf vj wr => ∃ j : Nat, j ≤ zs.length ∧ vj = .int .i64 j ∧ vf = .bool ((zs.take j).contains x) ∧ Fr wi wr Nil) (fun _ vj _ => zs.length - (intOf vj).toNat)
      case atStart => exact ⟨0, by omega, rfl, by simp, Fr.refl _ _⟩
      case round =>
        obtain ⟨j, hj, rfl, rfl, hf2⟩ := hrel
        have q1 := hf2.cell q0 fun h => h
        have Hf2 := Lib.hid hf2
        have Ho2 := Lib.hid (Ho.out.fr hf2 fun _ _ h => h)
        clear hf2
        by_cases hlj : j < zs.length
        · obtain ⟨ab, acap2, hav, _⟩ := Ho2.out.form (by omega)
          simp only [Value.slice.injEq, true_and] at hav
          obtain ⟨rfl, rfl⟩ := hav
          have q2 := Ho2.out.cell rfl j hlj
          have HTS := Lib.hid (take_has (y := x) hlj)
          generalize zs.getD j 0 = z at *
          clear q0
          cases hc : (zs.take j).contains x with
          | true =>
            rw [hc] at HTS
            clear hc
            go_wp2_with fail
            go_quiet (fail)
            go_wp2_with fail
            go_roundw
            case rel => exact ⟨j + 1, by omega, by go_num, by rw [HTS.out]; rfl, Hf2.out.drewN _⟩
            case measure => simp [intOf]; omega
          | false =>
            rw [hc] at HTS
            clear hc
            go_wp2_with fail
            go_quiet (fail)
            go_wp2_with fail
            go_roundw
            case rel => exact ⟨j + 1, by omega, by go_num, by rw [HTS.out]; simp, Hf2.out.drewN _⟩
            case measure => simp [intOf]; omega
        · obtain rfl : j = zs.length := by omega
          rw [List.take_length]
          clear q0
          cases hc : zs.contains x with
          | true =>
            rw [hc, if_pos rfl] at HOS
            clear hc
            go_wp2_with fail
            go_roundw
            case rel => exact ⟨k + 1, oa, ocap, by omega, by go_num, by rw [HOS.out], by rw [HOS.out]; exact Ho2.out, by exact Hn.out, Hf.out.trans0 Hf2.out⟩
            case measure => simp [intOf]; omega
          | false =>
            rw [hc, if_neg (by simp)] at HOS
            clear hc
            have Hlen : Hid (zs.length + 1 ≤ 1000000) := by
              have : zs.length + 1 ≤ 1000000 := by omega
              exact this
            go_wp2_with (at_builtin; refine wpList_app _ rfl _ _ 22 rfl Try.sltI64 _ rfl (World.ownsRow.alloc Ho2.out _) _ rfl (one_at _ _ _ _ (by simp)) (ints_one _) Hlen.out ?_)
            intro g3 cap3 w3 ho3 hg3 hb3
            have h1 := app_snocE Hn.out (Hf.out.trans0 Hf2.out).size ho3 hg3 hb3
            have H1 := Lib.hid h1
            have HF3 : Hid (Fr w w3 Nil) := (Hf.out.trans0 Hf2.out).trans h1.2.2 fun j hj hj2 => absurd hj (by have := Hn.out j hj2; omega)
            clear h1 ho3 hg3 hb3
            go_wp2_with fail
            go_roundw
            case rel => exact ⟨k + 1, g3, cap3, by omega, by go_num, by rw [HOS.out]; simp, by rw [HOS.out]; exact H1.out.1, H1.out.2.1, HF3.out⟩
            case measure => simp [intOf]; omega
    · obtain rfl : k = who.length := by omega
      rw [List.take_length] at Ho HOK hzl Hn ⊢
      generalize ownTo [] who = zs at *
      have Hl1 : Hid (0 + ts.length ≤ 1000000) := by
        have : 0 + ts.length ≤ 1000000 := by omega
        exact this
      have Hl2 : Hid (ts.length + more.length ≤ 1000000) := by
        have : ts.length + more.length ≤ 1000000 := by omega
        exact this
      go_wp2_with (at_builtin; refine wpList_app _ rfl _ _ 23 rfl Try.sltTouch _ rfl (World.ownsRow_nil _ _ _ _) _ rfl (SlAt.fr0 HT.out.1 Hf.out) (touch_ones _) Hl1.out ?_)
      intro g3 cap3 w3 ho3 hg3 hb3
      try simp only [Nat.zero_add] at ho3
      try simp only [List.nil_append] at ho3
      try simp only [Nat.zero_add]
      try simp only [Nat.zero_add] at hb3
      have hf3 : Fr wi w3 Nil := (Fr.refl wi _).grown hg3 fun k hk _ => by simp [Value.ownBlock] at hk
      have HF3 := Lib.hid (Hf.out.trans0 hf3)
      have Hn3 : Hid (NewFrom wi.heap.size (.slice g3 ts.length cap3)) := by
        have : NewFrom wi.heap.size (.slice g3 ts.length cap3) := by
          intro k hk
          rcases hb3 with hb | hb
          · rw [hb] at hk; simp [Value.ownBlock] at hk
          · rw [hb] at hk; cases hk; exact Nat.le_refl _
        exact this
      have Hz3 := Lib.hid (Ho.out.fr hf3 fun _ _ h => h)
      have HO3 := Lib.hid ho3
      have Hf3 := Lib.hid hf3
      clear ho3 hg3 hb3 hf3
      go_wp2_with (at_builtin; refine wpList_app _ rfl _ _ 23 rfl Try.sltTouch _ rfl HO3.out _ rfl (SlAt.fr0 HM.out.1 HF3.out) (touch_ones _) Hl2.out ?_)
      intro g4 cap4 w4 ho4 hg4 hb4
      have hf34 : Fr wi w4 Nil := Hf3.out.trans ((Fr.refl w3 (fun k => (Value.slice g3 ts.length cap3).ownBlock = some k)).grown hg4 fun k hk _ => hk) fun j hj hj2 => absurd hj (by have := Hn3.out j hj2; omega)
      have HF4 := Lib.hid (Hf.out.trans0 hf34)
      have HZ4 := Lib.hid (Ho.out.fr hf34 fun _ _ h => h)
      have HA4 := Lib.hid (own_touches (ts := ts ++ more) ho4 (by simp) (by simp))
      have HT4 := Lib.hid (SlAt.fr0 HT.out.1 HF4.out)
      clear ho4 hg4 hb4 hf34 HO3 Hf3 Hz3 Hn3 HF3 Ho Hf
      have HZW : Hid (∀ x ∈ zs, (Lit.int .i64 x).wf = true) := by
        have : ∀ x ∈ zs, (Lit.int .i64 x).wf = true := fun x hx => HWF.out x (HOK.out.2.2 x hx)
        exact this
      go_wp2_with fail
      refine (graph_call (who := zs) (ts := ts) HZ4.out.at (by omega) HOK.out.1 HZW.out HT4.out HT.out.2.1 (by omega)).mono ?_
      rintro e w5 ⟨gb, rfl, hg5, hf5⟩
      have HZ5 := Lib.hid (HZ4.out.fr hf5 fun _ _ h => h)
      have HA5 : Hid (TouchesAt w5 (.slice g4 (ts.length + more.length) cap4) (ts ++ more)) := SlAt.fr0 HA4.out.1 hf5
      have HG5 := Lib.hid hg5
      have HF5 := Lib.hid (HF4.out.trans0 hf5)
      clear hg5 hf5
      go_wp2_with fail
      refine (graph_call (who := zs) (ts := ts ++ more) HZ5.out.at (by omega) HOK.out.1 HZW.out HA5.out HA4.out.2 (by simp; omega)).mono ?_
      rintro e w6 ⟨hb, rfl, hg6, hf6⟩
      have HH6 := Lib.hid hg6
      have HG6 := Lib.hid (HG5.out.fr0 hf6)
      have HF6 := Lib.hid (HF5.out.trans0 hf6)
      clear hg6 hf6 HA5 HZ5 HG5 HF5 HA4 HZ4 HT4 HF4
      have hnn : ((zs.length : Int) != (zs.length : Int)) = false := by simp
      go_wp2_with fail
      go_loopw [14, 15, 16, 17] (fun vi _ _ _ wr => ∃ k : Nat, k ≤ zs.length ∧ vi = .int .i64 k ∧ Fr w6 wr Nil) (fun vi _ _ _ _ => zs.length - (intOf vi).toNat)
      case atStart => exact ⟨0, by omega, rfl, Fr.refl _ _⟩
      case round =>
        obtain ⟨i, hi, rfl, hf7⟩ := hrel
        have Hf7 := Lib.hid hf7
        clear hf7
        by_cases hlt : i < zs.length
        · have hzx := List.getElem?_eq_getElem hlt
          generalize zs[i] = x at hzx
          have hgx := graphW_at (ts := ts) hzx
          have hhx := graphW_at (ts := ts ++ more) hzx
          obtain ⟨gb1, goff, gcap, hgv, hgc⟩ := (HG6.out.fr0 Hf7.out).form (by rw [graphW_len]; omega)
          obtain ⟨hb1, hoff, hcap, hhv, hhc⟩ := (HH6.out.fr0 Hf7.out).form (by rw [graphW_len]; omega)
          rw [graphW_len] at hgv hhv
          simp only [Value.slice.injEq, Option.some.injEq, Addr.mk.injEq, true_and, and_true] at hgv hhv
          obtain ⟨⟨rfl, rfl⟩, rfl⟩ := hgv
          obtain ⟨⟨rfl, rfl⟩, rfl⟩ := hhv
          obtain ⟨u, q0, hux, _⟩ := hgc i _ hgx
          obtain ⟨v, q1, hvx, _⟩ := hhc i _ hhx
          rw [Nat.zero_add] at q0 q1
          have HED := Lib.hid (fun (y : Int) (hy : y ∈ ints (edgeRow zs ts x)) => (⟨edge_more (more := more) hy, fun e => edge_self hzx (by rw [← e]; exact hy)⟩ : y ∈ ints (edgeRow zs (ts ++ more) x) ∧ y ≠ (i : Int)))
          have hl1 := edgeRow_len zs ts x
          have hl2 := edgeRow_len zs (ts ++ more) x
          rw [← ints_len] at hl1 hl2
          generalize ints (edgeRow zs ts x) = xs at *
          generalize ints (edgeRow zs (ts ++ more) x) = ys at *
          obtain ⟨xa, xcap, rfl⟩ := hux.shape
          obtain ⟨ya, ycap, rfl⟩ := hvx.shape
          have HX := Lib.hid hux
          have HY := Lib.hid hvx
          have hii : (i : Int) < (zs.length : Int) := by omega
          obtain ⟨wj, rfl⟩ : ∃ wj : World, wj = wr := ⟨_, rfl⟩
          clear hgc hhc hux hvx hzx hgx hhx
          go_wp2_with fail
          go_loopw [15, 16, 17] (fun vk _ _ wr => ∃ k : Nat, k ≤ xs.length ∧ vk = .int .i64 k ∧ Fr wj wr Nil) (fun vk _ _ _ => xs.length - (intOf vk).toNat)
          case atStart => exact ⟨0, by omega, rfl, Fr.refl _ _⟩
          case round =>
            obtain ⟨k, hk, rfl, hf8⟩ := hrel
            have p0 := hf8.cell q0 fun h => h
            have p1 := hf8.cell q1 fun h => h
            have Hf8 := Lib.hid hf8
            clear hf8
            by_cases hlk : k < xs.length
            · obtain ⟨xb, xoff, xcap2, hxv, hxc⟩ := (fr0i HX.out Hf8.out).form (by omega)
              simp only [Value.slice.injEq, true_and] at hxv
              obtain ⟨rfl, rfl⟩ := hxv
              have hgk := List.getElem?_eq_getElem hlk
              have p2 := hxc k _ hgk
              obtain ⟨hy1, hy2⟩ := HED.out xs[k] (List.getElem_mem hlk)
              generalize xs[k] = y at *
              have HY1 := Lib.hid hy1
              have hki : (k : Int) < (xs.length : Int) := by omega
              obtain ⟨wk, rfl⟩ : ∃ wk : World, wk = wr := ⟨_, rfl⟩
              clear hxc hgk hy1
              go_wp2_with fail
              go_loopw [16, 17] (fun vf vj wr => ∃ j : Nat, j ≤ ys.length ∧ vj = .int .i64 j ∧ vf = .bool ((ys.take j).contains y) ∧ Fr wk wr Nil) (fun _ vj _ => ys.length - (intOf vj).toNat)
              case atStart => exact ⟨0, by omega, rfl, by simp, Fr.refl _ _⟩
              case round =>
                obtain ⟨j, hj, rfl, rfl, hf9⟩ := hrel
                have r0 := hf9.cell p0 fun h => h
                have r1 := hf9.cell p1 fun h => h
                have r2 := hf9.cell p2 fun h => h
                have Hf9 := Lib.hid hf9
                clear hf9
                by_cases hlj : j < ys.length
                · obtain ⟨yb, yoff, ycap2, hyv, hyc⟩ := (fr0i HY.out (Hf8.out.trans0 Hf9.out)).form (by omega)
                  simp only [Value.slice.injEq, true_and] at hyv
                  obtain ⟨rfl, rfl⟩ := hyv
                  have r3 := hyc j _ (List.getElem?_eq_getElem hlj)
                  have HTS := Lib.hid (take_has (y := y) hlj)
                  rw [show ys.getD j 0 = ys[j] by simp [List.getD_eq_getElem?_getD, hlj]] at HTS
                  generalize ys[j] = z at *
                  clear hyc q0 q1 p0 p1 p2
                  cases hc : (ys.take j).contains y with
                  | true =>
                    rw [hc] at HTS
                    clear hc
                    go_wp2_with fail
                    go_quiet (fail)
                    go_wp2_with fail
                    go_roundw
                    case rel => exact ⟨j + 1, by omega, by go_num, by rw [HTS.out]; rfl, Hf9.out.drewN _⟩
                    case measure => simp [intOf]; omega
                  | false =>
                    rw [hc] at HTS
                    clear hc
                    go_wp2_with fail
                    go_quiet (fail)
                    go_wp2_with fail
                    go_roundw
                    case rel => exact ⟨j + 1, by omega, by go_num, by rw [HTS.out]; simp, Hf9.out.drewN _⟩
                    case measure => simp [intOf]; omega
                · obtain rfl : j = ys.length := by omega
                  rw [List.take_length, show ys.contains y = true from List.contains_iff_mem.2 HY1.out]
                  have hne : (y == (i : Int)) = false := by rw [beq_eq_false_iff_ne]; exact hy2
                  clear q0 q1 p0 p1 p2
                  go_wp2_with fail
                  go_roundw
                  case rel => exact ⟨k + 1, by omega, by go_num, Hf8.out.trans0 Hf9.out⟩
                  case measure => simp [intOf]; omega
            · obtain rfl : k = xs.length := by omega
              clear q0 q1
              go_wp2_with fail
              go_roundw
              case rel => exact ⟨i + 1, by omega, by go_num, Hf7.out.trans0 Hf8.out⟩
              case measure => simp [intOf]; omega
        · obtain rfl : i = zs.length := by omega
          go_wp2_with fail
          refine (works_any _).mono ?_
          rintro e w9 ⟨rfl, hf9⟩
          have HF9 := Lib.hid ((HF6.out.trans0 Hf7.out).trans0 hf9)
          clear hf9
          go_wp2_with fail
          go_ret
          exact ⟨rfl, HF9.out⟩

section
variable (wv tv mv : Value) (who : List Int) (ts more : List TouchD) (w : World)
set_option maxRecDepth 100000 in
set_option maxHeartbeats 1000000 in
theorem more_out (hw : IntsAt w wv who) (ht : TsAt w tv ts) (hm : TsAt w mv more) (h : 10 < who.length ∨ who.length ≤ 10 ∧ 40 < ts.length ∨ who.length ≤ 10 ∧ ts.length ≤ 40 ∧ 40 < more.length) :
    Calls Try.prog 3 #[wv, tv, mv] w fun e w' => e = .returned (.bool true) ∧ Fr w w' Nil := by
  obtain ⟨wa, wcap, rfl⟩ := hw.shape
  obtain ⟨ta, tcap, rfl, htc⟩ := ht.shape
  obtain ⟨ma, mcap, rfl, hmc⟩ := hm.shape
  clear hw ht hm htc hmc
  rcases h with h1 | ⟨h1, h2⟩ | ⟨h1, h2, h3⟩
  all_goals
    go_enter Try.func3, Try.ntmps3
    go_wp2_with fail
    refine (works_any _).mono ?_
    rintro e w9 ⟨rfl, hf9⟩
    have HF9 := Lib.hid hf9
    clear hf9
    go_wp2_with fail
    go_ret
    exact ⟨rfl, HF9.out⟩
theorem more_any (hw : IntsAt w wv who) (ht : TsAt w tv ts) (hm : TsAt w mv more) (hwf : ∀ x ∈ who, (Lit.int .i64 x).wf = true) :
    Calls Try.prog 3 #[wv, tv, mv] w fun e w' => e = .returned (.bool true) ∧ Fr w w' Nil := by
  by_cases h : 10 < who.length ∨ who.length ≤ 10 ∧ 40 < ts.length ∨ who.length ≤ 10 ∧ ts.length ≤ 40 ∧ 40 < more.length
  · exact more_out wv tv mv who ts more w hw ht hm h
  · exact more_main wv tv mv who ts more w hw ht hm hwf (by omega) (by omega) (by omega)
end
end Go.Proofs.Ytegejcmihojhbaa
