/-
  Walk of the law RowsSums.
  No condition.
-/
import Derived.Test.YtljgifjokdppgaaRwSumPure
import Derived.Deep.QuietTactic
import Derived.BigQuiet
namespace Go.Proofs.Ytljgifjokdppgaa
open Go Go.RowKit

/-- What holds of the tables all along: two of them, of 2 and 1 columns; all of the call's own memory. -/
structure SumInv (w0 w : World) (rb : Nat) (M : List MTab) (S : Nat → Prop) (N : Nat) : Prop where
  rws : Rws w rb M S
  good : Good M
  few : Few N M
  cols : colsOf M = [2, 1]
  own : ∀ k, S k → w0.heap.size ≤ k
  fr : Fr w0 w Nil
theorem SumInv.fr0 {w0 w w' : World} {rb : Nat} {M : List MTab} {S : Nat → Prop} {N : Nat} (h : SumInv w0 w rb M S N) (hf : Fr w w' Nil) : SumInv w0 w' rb M S N :=
  ⟨h.rws.fr0 hf, h.good, h.few, h.cols, h.own, h.fr.trans0 hf⟩
theorem SumInv.upd {w0 w w' : World} {rb : Nat} {M M' : List MTab} {S : Nat → Prop} {N N' : Nat} (h : SumInv w0 w rb M S N) (hu : UpdS w rb S M' w') (hg : Good M' ∧ Few N' M') (hc : colsOf M' = colsOf M) : ∃ S', SumInv w0 w' rb M' S' N' := by
  obtain ⟨S', h1, h2, h3⟩ := hu.below h.fr h.own
  exact ⟨S', h1, hg.1, hg.2, hc.trans h.cols, h2, h3⟩

set_option maxRecDepth 100000 in
set_option maxHeartbeats 1000000 in
theorem sums_any (v : Value) (l : List CallD) (key n : Int) (w : World) (h : CallsAt w v l) :
    Calls Try.prog 3 #[v, .int .i64 key, .int .i64 n] w fun e w' => e = .returned (.bool true) ∧ Fr w w' Nil := by
  obtain ⟨hmax, a, cap, rfl, _⟩ := id h
  have H := Lib.hid h
  clear h
  by_cases hL : largeB l = true
  · have HL := Lib.hid hL
    clear hL
    go_enter Try.func3, Try.ntmps3
    go_wp2_with fail
    refine (large_any _ l _ H.out).mono ?_
    rintro e w1 ⟨he, hf⟩
    rw [HL.out] at he
    subst he
    have Hf := Lib.hid hf
    clear hf
    go_wp2_with fail
    refine (works_any _).mono ?_
    rintro e w2 ⟨rfl, hf⟩
    have Hf2 := Lib.hid (Hf.out.trans0 hf)
    clear hf
    go_wp2_with fail
    go_ret
    exact ⟨rfl, Hf2.out⟩
  · have hL' : largeB l = false := by simpa using hL
    have h100 := (largeB_small hL').1
    have HL := Lib.hid hL'
    clear hL hL'
    go_enter Try.func3, Try.ntmps3
    go_wp2_with fail
    refine (large_any _ l _ H.out).mono ?_
    rintro e w1 ⟨he, hf⟩
    rw [HL.out] at he
    subst he
    have Hf := Lib.hid hf
    clear hf
    go_wp2_with fail
    refine (api_new _ [2, 1] _ (intsAt_bk (Bk.new _ _ _) rfl) (by decide)).mono ?_
    rintro e w2 h
    rcases h with ⟨_, rb, S, rfl, hR, hS, hf⟩ | ⟨h, _⟩
    rotate_left
    · exact absurd (by decide) h
    have HI : Hid (SumInv w w2 rb (newMod [2, 1]) S 0) := ⟨hR, goodw0.1, goodw0.2, by decide, fun k hk => Nat.le_trans (Nat.le_trans Hf.out.size (by simp)) (hS k hk), (Hf.out.alloc _).trans0 hf⟩
    clear hR hS hf Hf
    go_wp2_with fail
    go_loopw [9] (fun vi wr => ∃ (k : Nat) (M : List MTab) (S : Nat → Prop), k ≤ l.length ∧ vi = .int .i64 k ∧ SumInv w wr rb M S k) (fun vi _ => l.length - (intOf vi).toNat)
    case atStart => exact ⟨0, _, _, by omega, rfl, HI.out⟩
    case round =>
      obtain ⟨k, M, S, hk, rfl, hinv⟩ := hrel
      have HI := Lib.hid hinv
      clear hinv
      by_cases hlt : k < l.length
      · obtain ⟨b, off, cap2, hv, hc⟩ := H.out.form (by omega)
        simp only [Value.slice.injEq, true_and] at hv
        obtain ⟨rfl, rfl⟩ := hv
        have hg := List.getElem?_eq_getElem hlt
        generalize l[k] = c at hg
        have hca := (hc k c hg).fr HI.out.fr
        obtain ⟨ac, cc, hcv⟩ := hca.cols.shape
        have q0 := hca.kind
        have q1 := hca.table
        have q2 := hca.key
        have q3 := hca.col
        have q4 := hca.n
        have q5 := hca.cv
        rw [hcv] at q5
        obtain ⟨hu0, hu1⟩ := hca.u8
        have HC : Hid (IntsAt wr (.slice ac c.cols.length cc) c.cols) := by rw [← hcv]; exact hca.cols
        have HM : Hid (c.cols.length ≤ 1000000) := Nat.le_trans ((largeB_small HL.out).2 c (List.mem_of_getElem? hg)) (by decide)
        have hlt2 : (k : Int) < (l.length : Int) := by omega
        clear hc hg hca hcv
        by_cases h4 : c.kind % 8 = 4
        · have h4' : (c.kind % 8 == 4) = true := by rw [beq_iff_eq]; exact h4
          clear h4
          go_wp2_with fail
          refine (api_set _ _ _ _ (HI.out.rws.fr0 ((Fr.refl wr Nil).alloc _)) HI.out.good).mono ?_
          rintro e w3 ⟨rfl, hu⟩
          obtain ⟨S3, hI3⟩ := (HI.out.fr0 ((Fr.refl wr Nil).alloc _)).upd hu (good_set HI.out.good HI.out.few _ _ _ _) (cols_set _ _ _ _ _)
          have HI3 := Lib.hid hI3
          clear hu hI3
          go_wp2_with fail
          go_roundw
          case rel => exact ⟨k + 1, _, _, by omega, by go_num, HI3.out.rws, HI3.out.good, fun T hT => Nat.le_succ_of_le (HI3.out.few T hT), HI3.out.cols, HI3.out.own, HI3.out.fr⟩
          case measure => simp [intOf]; omega
        · by_cases h5 : c.kind % 8 = 5
          · have h4' : (c.kind % 8 == 4) = false := by rw [beq_eq_false_iff_ne]; exact h4
            have h5' : (c.kind % 8 == 5) = true := by rw [beq_iff_eq]; exact h5
            clear h4 h5
            go_wp2_with fail
            refine (api_del _ _ (HI.out.rws.fr0 ((Fr.refl wr Nil).alloc _)) HI.out.good).mono ?_
            rintro e w3 ⟨rfl, hu⟩
            obtain ⟨S3, hI3⟩ := (HI.out.fr0 ((Fr.refl wr Nil).alloc _)).upd hu (good_del HI.out.good HI.out.few _ _) (cols_del _ _ _)
            have HI3 := Lib.hid hI3
            clear hu hI3
            go_wp2_with fail
            go_roundw
            case rel => exact ⟨k + 1, _, _, by omega, by go_num, HI3.out.rws, HI3.out.good, fun T hT => Nat.le_succ_of_le (HI3.out.few T hT), HI3.out.cols, HI3.out.own, HI3.out.fr⟩
            case measure => simp [intOf]; omega
          · have h4' : (c.kind % 8 == 4) = false := by rw [beq_eq_false_iff_ne]; exact h4
            have h5' : (c.kind % 8 == 5) = false := by rw [beq_eq_false_iff_ne]; exact h5
            clear h4 h5
            go_wp2_with fail
            refine (api_put _ _ _ c.cols (HI.out.rws.fr0 ((Fr.refl wr Nil).alloc _)) HI.out.good (HC.out.fr ((Fr.refl wr Nil).alloc _) fun _ _ h => h) HM.out).mono ?_
            rintro e w3 ⟨rfl, hu⟩
            obtain ⟨S3, hI3⟩ := (HI.out.fr0 ((Fr.refl wr Nil).alloc _)).upd hu (good_put HI.out.good HI.out.few (by omega) _ _ _) (cols_put _ _ _ _)
            have HI3 := Lib.hid hI3
            clear hu hI3
            go_wp2_with fail
            go_roundw
            case rel => exact ⟨k + 1, _, _, by omega, by go_num, HI3.out⟩
            case measure => simp [intOf]; omega
      · have HI1 : Hid (SumInv w wr rb M S 100) := ⟨HI.out.rws, HI.out.good, fun T hT => Nat.le_trans (HI.out.few T hT) (by omega), HI.out.cols, HI.out.own, HI.out.fr⟩
        clear HI
        go_wp2_with fail
        go_loopw [11] (fun vt wr2 => ∃ (t : Nat) (M : List MTab) (S : Nat → Prop), t ≤ 2 ∧ vt = .int .i64 t ∧ SumInv w wr2 rb M S 100) (fun vt _ => 2 - (intOf vt).toNat)
        case atStart => exact ⟨0, _, _, by omega, rfl, HI1.out⟩
        case round =>
          clear HI1 hlt hk
          obtain ⟨t, M, S, ht, rfl, hinv⟩ := hrel
          have HI := Lib.hid hinv
          clear hinv
          by_cases hlt : t < 2
          · go_wp2_with fail
            refine (api_all _ HI.out.rws HI.out.good).mono ?_
            rintro e w3 ⟨a3, c3, g, rfl, hN, hrows, hf⟩
            have HI3 := Lib.hid (HI.out.fr0 hf)
            have HN := Lib.hid hN.rl
            have Hrows := Lib.hid hrows
            clear HI hN hrows hf
            go_wp2_with fail
            go_loopw [12, 13] (fun vl vc wr3 => ∃ (c : Nat) (M : List MTab) (S : Nat → Prop) (al : Option Addr) (cl : Nat) (g : List GRow), c ≤ 2 - t ∧ vc = .int .i64 c ∧ vl = .slice al g.length cl ∧ SumInv w wr3 rb M S 100 ∧ RL wr3 (.slice al g.length cl) g ∧ rowsOf g = (mtab M t).2)
              (fun _ vc _ => 2 - t - (intOf vc).toNat)
            case atStart => exact ⟨0, _, _, a3, c3, g, by omega, rfl, rfl, HI3.out, HN.out, Hrows.out⟩
            case round =>
              clear HI3 HN Hrows
              obtain ⟨c, M, S, al, cl, g, hc, rfl, rfl, hinv, hrl, hrows⟩ := hrel
              have HI := Lib.hid hinv
              have HN := Lib.hid hrl
              have Hrows := Lib.hid hrows
              clear hinv hrl hrows
              by_cases hlc : c < 2 - t
              · have hT1 : Hid ((mtab M t).1 = 2 - t) := by
                  have : (mtab M (t : Int)).1 = 2 - t := by
                    rw [mtab_cols, HI.out.cols]
                    rcases (show t = 0 ∨ t = 1 by omega) with rfl | rfl <;> rfl
                  exact this
                go_wp2_with fail
                go_loopw [14, 15] (fun vs vi wr4 => ∃ i : Nat, i ≤ g.length ∧ vi = .int .i64 i ∧ vs = .int .i64 (sumTo (mtab M t) c i) ∧ SumInv w wr4 rb M S 100 ∧ RL wr4 (.slice al g.length cl) g) (fun _ vi _ => g.length - (intOf vi).toNat)
                case atStart => exact ⟨0, by omega, rfl, rfl, HI.out, HN.out⟩
                case round =>
                  clear HI HN
                  obtain ⟨i, hi, rfl, rfl, hinv, hrl⟩ := hrel
                  have HI := Lib.hid hinv
                  have HN := Lib.hid hrl
                  clear hinv hrl
                  have hgl : g.length ≤ 1000000 := by
                    have h1 := (HI.out.good.at t).few
                    rw [← Hrows.out] at h1
                    simpa [rowsOf] using h1
                  by_cases hli : i < g.length
                  · have hr := List.getElem?_eq_getElem hli
                    generalize g[i] = r at hr
                    obtain ⟨b, capb, hlv, _⟩ : ∃ b cap, Value.slice al g.length cl = .slice (some ⟨b, 0, none⟩) g.length cap ∧ True := by
                      rcases HN.out.shape with ⟨_, h2⟩ | ⟨b, cap, h1, _⟩
                      · rw [h2] at hli; simp at hli
                      · exact ⟨b, cap, h1, trivial⟩
                    simp only [Value.slice.injEq, true_and] at hlv
                    obtain ⟨rfl, rfl⟩ := hlv
                    have p0 := HN.out.key _ r hr
                    have p1 := HN.out.cv _ r hr
                    have hcl := HN.out.cols r (List.mem_of_getElem? hr)
                    have hmem : (r.key, r.cols) ∈ (mtab M t).2 := by
                      rw [← Hrows.out]
                      simp only [rowsOf, List.mem_map]
                      exact ⟨r, List.mem_of_getElem? hr, rfl⟩
                    have hw := (HI.out.good.at t).width _ hmem
                    have hT := hT1.out
                    have hwl : r.cols.length = 2 - t := hw.trans hT
                    obtain ⟨bc, capc, hcv, _⟩ := hcl.form (by omega)
                    rw [hcv] at hcl p1
                    have p2 := hcl.cell rfl c (by omega)
                    have HSU : Hid (sumTo (mtab M t) c (i + 1) = wrap64 (sumTo (mtab M t) c i + r.cols.getD c 0)) := by
                      have h1 : (mtab M t).2[i]? = some (r.key, r.cols) := by rw [← Hrows.out]; simp [rowsOf, hr]
                      rw [sumTo_eq, sumTo_eq, List.take_add_one, h1, wrap_add]
                      congr 1
                      simp [colSum]
                    generalize r.cols.getD c 0 = x at *
                    have hlen : ((r.cols.length : Int) != 2 - (t : Int)) = false := by rw [bne_eq_false_iff_eq]; omega
                    have hci : (c : Int) < (r.cols.length : Int) := by omega
                    have hli2 : (i : Int) < (g.length : Int) := by omega
                    have Hr := Lib.hid hr
                    clear hcl hcv hr hmem hw hT hwl
                    by_cases hi0 : i = 0
                    · have hg0 : decide (0 < i) = false := by rw [decide_eq_false_iff_not]; omega
                      clear hi0
                      go_wp2_with fail
                      go_quiet (fail)
                      go_wp2_with fail
                      go_roundw
                      case rel => exact ⟨i + 1, by omega, by go_num, by rw [HSU.out], HI.out.fr0 ((Fr.refl wr Nil).drewN _), HN.out.fr ((Fr.refl wr Nil).drewN _) fun _ _ h => h⟩
                      case measure => simp [intOf]; omega
                    · have hli1 : i - 1 < g.length := by omega
                      have hr1 := List.getElem?_eq_getElem hli1
                      generalize g[i - 1] = r1 at hr1
                      have p3 := HN.out.key _ r1 hr1
                      have hlt1 : r1.key < r.key := by
                        have hs := (HI.out.good.at t).sorted
                        rw [← Hrows.out] at hs
                        simp only [rowsOf, List.pairwise_map] at hs
                        exact Sorted.lt hs hr1 Hr.out (by omega)
                      have hg0 : 0 < i := by omega
                      have hg1 : decide (r.key ≤ r1.key) = false := by rw [decide_eq_false_iff_not]; omega
                      have bw : IntKind.i64.wrap ((i : Int) - 1) = (i : Int) - 1 := IntWalk.i64_in _ (by omega)
                      have bt : ((i : Int) - 1).toNat = i - 1 := by omega
                      have b0 : (0 : Int) ≤ (i : Int) - 1 := by omega
                      have b1 : (i : Int) - 1 < (g.length : Int) := by omega
                      clear hi0 hr1
                      go_wp2_with fail
                      go_quiet (fail)
                      clear bw bt b0 b1 hg0 hg1
                      go_wp2_with fail
                      go_roundw
                      case rel => exact ⟨i + 1, by omega, by go_num, by rw [HSU.out], HI.out.fr0 ((Fr.refl wr Nil).drewN _), HN.out.fr ((Fr.refl wr Nil).drewN _) fun _ _ h => h⟩
                      case measure => simp [intOf]; omega
                  · have hie : i = g.length := by omega
                    have hne : (mtab M (t : Int)).1 ≠ 0 := by rw [hT1.out]; omega
                    have HSM : Hid (sumTo (mtab M t) c i = msum (mtab M t) c) := by
                      have h1 : g.length = (mtab M (t : Int)).2.length := by rw [← Hrows.out]; simp [rowsOf]
                      have h2 : sumTo (mtab M t) c i = msum (mtab M t) c := by
                        unfold msum
                        rw [if_pos ⟨by omega, by rw [hT1.out]; omega⟩, hie, h1]
                        rfl
                      exact h2
                    have Hne := Lib.hid hne
                    have HGL : Hid (g.length = (mtab M (t : Int)).2.length) := by
                      have h1 : g.length = (mtab M (t : Int)).2.length := by rw [← Hrows.out]; simp [rowsOf]
                      exact h1
                    clear hie hne
                    go_wp2_with fail
                    refine (api_get _ _ HI.out.rws HI.out.good).mono ?_
                    rintro e w5 hget
                    rcases hget with ⟨xs, hm, a5, c5, rfl, hcl⟩ | ⟨hm, rfl, hf⟩
                    · have hw := (HI.out.good.at t).width _ (mget_mem hm)
                      have hT := hT1.out
                      have hxl : xs.length = 2 - t := hw.trans hT
                      have ES : Hid (mset M t key c n = (M.set t ((mtab M t).set key c n), true, 0)) := by
                        have h1 : mset M t key c n = (M.set t ((mtab M t).set key c n), true, 0) := by
                          unfold mset
                          rw [if_pos ⟨by omega, by omega⟩, hm]
                          rfl
                        exact h1
                      have EM : Hid (msum (mtab (M.set t ((mtab M t).set key c n)) t) c = wrap64 (wrap64 (msum (mtab M t) c - xs.getD c 0) + n)) := by
                        have h1 : mtab (M.set t ((mtab M t).set key c n)) (t : Int) = (mtab M t).set key c n := by
                          have := mtab_set_self Hne.out ((mtab M t).set key c n)
                          simpa using this
                        have h2 := msum_set (HI.out.good.at t) hm (show c < (mtab M (t : Int)).1 by omega) n
                        rw [h1]
                        exact h2
                      have EL : Hid ((mtab (M.set t ((mtab M t).set key c n)) (t : Int)).2.length = g.length) := by
                        have h1 : mtab (M.set t ((mtab M t).set key c n)) (t : Int) = (mtab M t).set key c n := by
                          have := mtab_set_self Hne.out ((mtab M t).set key c n)
                          simpa using this
                        rw [h1, HGL.out]
                        show List.length (List.map _ _) = _
                        rw [List.length_map]
                      have hlen : ((xs.length : Int) != 2 - (t : Int)) = false := by rw [bne_eq_false_iff_eq]; omega
                      obtain ⟨bo, co, hov, _⟩ := hcl.1.form (by omega)
                      simp only [Value.slice.injEq, true_and] at hov
                      obtain ⟨rfl, rfl⟩ := hov
                      have Hcl := Lib.hid hcl
                      have HI5 := Lib.hid (HI.out.fr0 hcl.2.2)
                      have hlt0 : ∀ k, S k → k < bo := fun k hk => Nat.lt_of_lt_of_le (HI.out.rws.lt k hk) (hcl.2.1 bo rfl)
                      have Hlt0 := Lib.hid hlt0
                      have Hxl := Lib.hid hxl
                      clear hcl hw hT hxl hm hlt0
                      go_wp2_with fail
                      refine (api_set _ _ _ _ HI5.out.rws HI5.out.good).mono ?_
                      rintro e w6 ⟨he, hu⟩
                      have hgs := good_set HI5.out.good HI5.out.few t key c n
                      have hcs := cols_set M t key c n
                      rw [ES.out] at he hu hgs hcs
                      subst he
                      have p2 := (Hcl.out.1.fr hu.choose_spec.2.2 (fun k hk hs => by cases hk; exact Nat.lt_irrefl _ (Hlt0.out _ hs))).cell rfl c (by rw [Hxl.out]; exact hlc)
                      obtain ⟨S6, hI6⟩ := HI5.out.upd hu hgs hcs
                      have HI6 := Lib.hid hI6
                      clear hu hgs hcs hI6 HI5
                      go_wp2_with fail
                      refine (api_len _ HI6.out.rws HI6.out.good).mono ?_
                      rintro e w7 ⟨he, hf⟩
                      rw [EL.out] at he
                      subst he
                      have p3 := hf.cell p2 fun h => h
                      have HI7 := Lib.hid (HI6.out.fr0 hf)
                      have hci : (c : Int) < (xs.length : Int) := by have := Hxl.out; omega
                      generalize xs.getD c 0 = old at *
                      clear hf p2 HI6
                      go_wp2_with fail
                      refine (api_sum _ _ HI7.out.rws HI7.out.good).mono ?_
                      rintro e w8 ⟨he, hf⟩
                      rw [EM.out, ← HSM.out] at he
                      subst he
                      have HI8 := Lib.hid (HI7.out.fr0 hf)
                      clear hf p3 HI7
                      go_wp2_with fail
                      refine (api_all _ HI8.out.rws HI8.out.good).mono ?_
                      rintro e w9 ⟨a9, c9, g9, rfl, hN, hrows, hf⟩
                      have HI9 := Lib.hid (HI8.out.fr0 hf)
                      have HN9 := Lib.hid hN.rl
                      have Hrows9 := Lib.hid hrows
                      clear hf hN hrows HI8
                      go_wp2_with fail
                      go_roundw
                      case rel => exact ⟨c + 1, _, _, a9, c9, g9, by omega, by go_num, rfl, HI9.out, HN9.out, Hrows9.out⟩
                      case measure => simp [intOf]; omega
                    · have hT := hT1.out
                      have ES : Hid (mset M t key c n = (M, false, 0)) := by
                        have h1 : mset M t key c n = (M, false, 0) := by
                          unfold mset
                          rw [if_pos ⟨by omega, by omega⟩, hm]
                          rfl
                        exact h1
                      have HI5 := Lib.hid (HI.out.fr0 hf)
                      clear hT hm hf
                      go_wp2_with fail
                      refine (api_set _ _ _ _ HI5.out.rws HI5.out.good).mono ?_
                      rintro e w6 ⟨he, hu⟩
                      have hgs := good_set HI5.out.good HI5.out.few t key c n
                      have hcs := cols_set M t key c n
                      rw [ES.out] at he hu hgs hcs
                      subst he
                      obtain ⟨S6, hI6⟩ := HI5.out.upd hu hgs hcs
                      have HI6 := Lib.hid hI6
                      clear hu hgs hcs hI6 HI5
                      go_wp2_with fail
                      refine (api_len _ HI6.out.rws HI6.out.good).mono ?_
                      rintro e w7 ⟨he, hf⟩
                      rw [← HGL.out] at he
                      subst he
                      have HI7 := Lib.hid (HI6.out.fr0 hf)
                      clear hf HI6
                      go_wp2_with fail
                      refine (api_sum _ _ HI7.out.rws HI7.out.good).mono ?_
                      rintro e w8 ⟨he, hf⟩
                      rw [← HSM.out] at he
                      subst he
                      have HI8 := Lib.hid (HI7.out.fr0 hf)
                      clear hf HI7
                      go_wp2_with fail
                      refine (api_all _ HI8.out.rws HI8.out.good).mono ?_
                      rintro e w9 ⟨a9, c9, g9, rfl, hN, hrows, hf⟩
                      have HI9 := Lib.hid (HI8.out.fr0 hf)
                      have HN9 := Lib.hid hN.rl
                      have Hrows9 := Lib.hid hrows
                      clear hf hN hrows HI8
                      go_wp2_with fail
                      go_roundw
                      case rel => exact ⟨c + 1, _, _, a9, c9, g9, by omega, by go_num, rfl, HI9.out, HN9.out, Hrows9.out⟩
                      case measure => simp [intOf]; omega
              · go_wp2_with fail
                go_roundw
                case rel => exact ⟨t + 1, _, _, by omega, by go_num, HI.out⟩
                case measure => simp [intOf]; omega
          · go_wp2_with fail
            refine (works_any _).mono ?_
            rintro e w3 ⟨rfl, hf⟩
            have Hf3 := Lib.hid (HI.out.fr.trans0 hf)
            clear hf
            go_wp2_with fail
            go_ret
            exact ⟨rfl, Hf3.out⟩
end Go.Proofs.Ytljgifjokdppgaa
