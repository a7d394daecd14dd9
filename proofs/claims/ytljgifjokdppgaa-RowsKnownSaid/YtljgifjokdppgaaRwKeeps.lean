/-
  Walk of the law RowsKeeps.
  No condition.
-/
import Derived.Test.YtljgifjokdppgaaRwKeepPure
import Derived.Test.YtljgifjokdppgaaRwInts
import Derived.Test.YtljgifjokdppgaaRwCopy
import Derived.Test.YtljgifjokdppgaaRwCalls
namespace Go.Proofs.Ytljgifjokdppgaa
open Go Go.RowKit

/-- What holds of the tables all along: two of them, of 3 and 2 columns; of key there is a row of xs; all of the call's own memory. -/
structure KeepInv (w0 w : World) (rb : Nat) (M : List MTab) (S : Nat → Prop) (N : Nat) (key : Int) (xs : List Int) : Prop where
  rws : Rws w rb M S
  good : Good M
  few : Few N M
  cols : colsOf M = [3, 2]
  got : mget (mtab M 0) key = some xs
  own : ∀ k, S k → w0.heap.size ≤ k
  fr : Fr w0 w Nil
theorem KeepInv.fr0 {w0 w w' : World} {rb : Nat} {M : List MTab} {S : Nat → Prop} {N : Nat} {key : Int} {xs : List Int} (h : KeepInv w0 w rb M S N key xs) (hf : Fr w w' Nil) : KeepInv w0 w' rb M S N key xs :=
  ⟨h.rws.fr0 hf, h.good, h.few, h.cols, h.got, h.own, h.fr.trans0 hf⟩
theorem KeepInv.upd {w0 w w' : World} {rb : Nat} {M M' : List MTab} {S : Nat → Prop} {N N' : Nat} {key : Int} {xs : List Int} (h : KeepInv w0 w rb M S N key xs) (hu : UpdS w rb S M' w') (hg : Good M' ∧ Few N' M') (hc : colsOf M' = colsOf M) (hk : mget (mtab M' 0) key = mget (mtab M 0) key) :
    ∃ S', KeepInv w0 w' rb M' S' N' key xs := by
  obtain ⟨S', h1, h2, h3⟩ := hu.below h.fr h.own
  exact ⟨S', h1, hg.1, hg.2, hc.trans h.cols, hk.trans h.got, h2, h3⟩
theorem KeepInv.up {w0 w : World} {rb : Nat} {M : List MTab} {S : Nat → Prop} {N N' : Nat} {key : Int} {xs : List Int} (h : KeepInv w0 w rb M S N key xs) (hN : N ≤ N') : KeepInv w0 w rb M S N' key xs :=
  ⟨h.rws, h.good, fun T hT => Nat.le_trans (h.few T hT) hN, h.cols, h.got, h.own, h.fr⟩
theorem keep_new (key a b c : Int) : mput (newMod [3, 2]) 0 key [a, b, c] = ((newMod [3, 2]).set 0 (MTab.put (3, []) key [a, b, c]), 0) := rfl
theorem keep_new_got (key a b c : Int) : mget (mtab ((newMod [3, 2]).set 0 (MTab.put (3, []) key [a, b, c])) 0) key = some [a, b, c] := mget_put_self (3, []) key [a, b, c]
theorem keep_last {w0 w : World} {rb : Nat} {M : List MTab} {S : Nat → Prop} {N : Nat} {key : Int} {xs : List Int} (h : KeepInv w0 w rb M S N key xs) :
    ∃ M', mdel M 0 key = (M', true, 0) ∧ mget (mtab M' 0) key = none := by
  have h3 : (mtab M 0).1 = 3 := by
    have := mtab_cols M 0
    rw [h.cols] at this
    exact this
  refine ⟨M.set (0 : Int).toNat ((mtab M 0).del key), ?_, ?_⟩
  · unfold mdel
    rw [if_neg (by omega), h.got]
    rfl
  · rw [mtab_set_self (by omega), mget_del_self]

set_option maxRecDepth 100000 in
set_option maxHeartbeats 1000000 in
theorem keeps_any (v : Value) (l : List CallD) (key a b c : Int) (w : World) (h : CallsAt w v l) :
    Calls Try.prog 4 #[.int .i64 key, .agg #[.int .i64 a, .int .i64 b, .int .i64 c], v] w fun e w' => e = .returned (.bool true) ∧ Fr w w' Nil := by
  obtain ⟨hmax, al, cap, rfl, _⟩ := id h
  have H := Lib.hid (h.fr ((Fr.refl w Nil).alloc (Obj.cells #[.int .i64 a, .int .i64 b, .int .i64 c] 46)))
  have HF0 : Hid (Fr w (w.alloc (Obj.cells #[.int .i64 a, .int .i64 b, .int .i64 c] 46)) Nil) := (Fr.refl w Nil).alloc _
  have HB : Hid (Bk (w.alloc (Obj.cells #[.int .i64 a, .int .i64 b, .int .i64 c] 46)) w.heap.size 46 (([a, b, c] : List Int).map (Value.int .i64))) := Bk.new w 46 #[.int .i64 a, .int .i64 b, .int .i64 c]
  clear h
  by_cases hL : largeB l = true
  · have HL := Lib.hid hL
    clear hL
    go_enter Try.func4, Try.ntmps4
    go_wp2_with fail
    refine (large_any _ l _ H.out).mono ?_
    rintro e w1 ⟨he, hf⟩
    rw [HL.out] at he
    subst he
    have Hf := Lib.hid (HF0.out.trans0 hf)
    clear hf
    go_wp2_with fail
    refine (works_any _).mono ?_
    rintro e w2 ⟨rfl, hf⟩
    have Hf2 := Lib.hid (Hf.out.trans0 hf)
    clear hf
    go_wp2_with fail
    go_ret
    exact ⟨rfl, Hf2.out⟩
  · have hL' : largeB l = false := by simpa using hL
    have h100 := (largeB_small hL').1
    have HL := Lib.hid hL'
    clear hL hL'
    go_enter Try.func4, Try.ntmps4
    go_wp2_with fail
    refine (large_any _ l _ H.out).mono ?_
    rintro e w1 ⟨he, hf⟩
    rw [HL.out] at he
    subst he
    obtain ⟨w0, hw0⟩ : ∃ w0, w0 = w.alloc (Obj.cells #[.int .i64 a, .int .i64 b, .int .i64 c] 46) := ⟨_, rfl⟩
    rw [← hw0] at hf H HF0 HB
    have HW : Hid (w0.heap.size = w.heap.size + 1) := by rw [hw0]; exact World.size_alloc _ _
    clear hw0
    have Hf := Lib.hid hf
    clear hf
    go_wp2_with fail
    refine (api_new _ [3, 2] _ (intsAt_bk (Bk.new _ _ _) rfl) (by decide)).mono ?_
    rintro e w2 h
    rcases h with ⟨_, rb, S, rfl, hR, hS, hf⟩ | ⟨h, _⟩
    rotate_left
    · exact absurd (by decide) h
    have HR := Lib.hid hR
    have HS : Hid (∀ k, S k → w0.heap.size ≤ k) := fun k hk => Nat.le_trans (Nat.le_trans Hf.out.size (by simp)) (hS k hk)
    have Hf2 := Lib.hid ((Hf.out.alloc (Obj.cells #[Value.int IntKind.i64 3, Value.int IntKind.i64 2] 3)).trans0 hf)
    clear hR hS hf Hf
    go_wp2_with fail
    refine (api_put 0 key _ [a, b, c] HR.out (good_new (by decide)).1 (intsAt_bk (HB.out.fr Hf2.out fun h => h) rfl) (by simp)).mono ?_
    rintro e w3 ⟨he, hu⟩
    have hgd := good_put (good_new (cols := [3, 2]) (by decide)).1 (good_new (cols := [3, 2]) (by decide)).2 (by decide) 0 key [a, b, c]
    have hcs := cols_put (newMod [3, 2]) 0 key [a, b, c]
    rw [keep_new] at he hu hgd hcs
    subst he
    have HI : Hid (∃ M S', KeepInv w0 w3 rb M S' 1 key [a, b, c]) := by
      obtain ⟨S', h1, h2, h3⟩ := hu.below Hf2.out HS.out
      exact ⟨_, S', h1, hgd.1, hgd.2, hcs, keep_new_got key a b c, h2, h3⟩
    clear hu hgd hcs HR HS Hf2
    obtain ⟨M0, S0, hI0⟩ := HI.out
    have HI0 := Lib.hid hI0
    clear HI hI0
    go_wp2_with fail
    go_loopw [7, 9] (fun vr vi wr => ∃ (k rb : Nat) (M : List MTab) (S : Nat → Prop), k ≤ l.length ∧ vi = .int .i64 k ∧ vr = rptr rb ∧ KeepInv w0 wr rb M S (k + 1) key [a, b, c]) (fun _ vi _ => l.length - (intOf vi).toNat)
    case atStart => exact ⟨0, rb, _, _, by omega, rfl, rfl, HI0.out⟩
    case round =>
      clear HI0
      obtain ⟨k, rb, M, S, hk, rfl, rfl, hinv⟩ := hrel
      have HI := Lib.hid hinv
      clear hinv
      by_cases hlt : k < l.length
      · obtain ⟨bl, off, cap2, hv, hc⟩ := H.out.form (by omega)
        simp only [Value.slice.injEq, true_and] at hv
        obtain ⟨rfl, rfl⟩ := hv
        have hg := List.getElem?_eq_getElem hlt
        generalize l[k] = x at hg
        have hca := (hc k x hg).fr HI.out.fr
        obtain ⟨ac, cc, hcv⟩ := hca.cols.shape
        have q0 := hca.kind
        have q1 := hca.table
        have q2 := hca.key
        have q3 := hca.col
        have q4 := hca.n
        have q5 := hca.cv
        rw [hcv] at q5
        obtain ⟨hu0, hu1⟩ := hca.u8
        have HC : Hid (IntsAt wr (.slice ac x.cols.length cc) x.cols) := by rw [← hcv]; exact hca.cols
        have HM : Hid (x.cols.length ≤ 1000000) := Nat.le_trans ((largeB_small HL.out).2 x (List.mem_of_getElem? hg)) (by decide)
        have hlt2 : (k : Int) < (l.length : Int) := by omega
        clear hc hg hca hcv
        by_cases hsame : x.table = 0 ∧ x.key = key
        · obtain ⟨e1, e2⟩ := hsame
          have f1 : (x.table == 0) = true := by rw [beq_iff_eq]; exact e1
          have f2 : (x.key == key) = true := by rw [beq_iff_eq]; exact e2
          clear e1 e2
          go_wp2_with fail
          go_roundw
          case rel => exact ⟨k + 1, _, _, _, by omega, by go_num, rfl, (HI.out.fr0 ((Fr.refl wr Nil).alloc _)).up (by omega)⟩
          case measure => simp [intOf]; omega
        · have Hsame := Lib.hid hsame
          clear hsame
          have hff : Hid (((x.table == 0) = false) ∨ ((x.table == 0) = true ∧ (x.key == key) = false)) := by
            by_cases h1 : x.table = 0
            · exact .inr ⟨by rw [beq_iff_eq]; exact h1, by rw [beq_eq_false_iff_ne]; exact fun h2 => Hsame.out ⟨h1, h2⟩⟩
            · exact .inl (by rw [beq_eq_false_iff_ne]; exact h1)
          have hkinds : x.kind % 4 = 0 ∨ x.kind % 4 = 1 ∨ x.kind % 4 = 2 ∨ x.kind % 4 = 3 := by omega
          rcases hkinds with h4 | h4 | h4 | h4
          · have g0 : (x.kind % 4 == 0) = true := by rw [beq_iff_eq]; exact h4
            clear h4
            rcases hff.out with f1 | ⟨f1, f2⟩
            · go_wp2_with fail
              refine (api_put _ _ _ x.cols (HI.out.rws.fr0 ((Fr.refl wr Nil).alloc _)) HI.out.good (HC.out.fr ((Fr.refl wr Nil).alloc _) fun _ _ h => h) HM.out).mono ?_
              rintro e w3 ⟨rfl, hu⟩
              obtain ⟨S3, hI3⟩ := (HI.out.fr0 ((Fr.refl wr Nil).alloc _)).upd hu (good_put HI.out.good HI.out.few (by omega) _ _ _) (cols_put _ _ _ _) (keep_put Hsame.out _)
              have HI3 := Lib.hid hI3
              clear hu hI3
              go_wp2_with fail
              refine (api_get 0 key HI3.out.rws HI3.out.good).mono ?_
              rintro e w4 hget
              rcases hget with ⟨xs, hm, a5, c5, rfl, hcl⟩ | ⟨hm, _, _⟩
              rotate_left
              · rw [HI3.out.got] at hm; cases hm
              rw [HI3.out.got] at hm
              cases hm
              have HI4 := Lib.hid (HI3.out.fr0 hcl.2.2)
              have Hcl := Lib.hid hcl
              clear hcl HI3
              go_wp2_with fail
              refine (sameInts_any _ _ [a, b, c] [a, b, c] _ Hcl.out.1.at (intsAt_bk (HB.out.fr HI4.out.fr fun h => h) rfl) (by simp) (by simp)).mono ?_
              rintro e w5 ⟨rfl, hf⟩
              have HI5 := Lib.hid (HI4.out.fr0 hf)
              clear hf Hcl HI4
              go_wp2_with fail
              go_roundw
              case rel => exact ⟨k + 1, _, _, _, by omega, by go_num, rfl, HI5.out.up (by omega)⟩
              case measure => simp [intOf]; omega
            · go_wp2_with fail
              refine (api_put _ _ _ x.cols (HI.out.rws.fr0 ((Fr.refl wr Nil).alloc _)) HI.out.good (HC.out.fr ((Fr.refl wr Nil).alloc _) fun _ _ h => h) HM.out).mono ?_
              rintro e w3 ⟨rfl, hu⟩
              obtain ⟨S3, hI3⟩ := (HI.out.fr0 ((Fr.refl wr Nil).alloc _)).upd hu (good_put HI.out.good HI.out.few (by omega) _ _ _) (cols_put _ _ _ _) (keep_put Hsame.out _)
              have HI3 := Lib.hid hI3
              clear hu hI3
              go_wp2_with fail
              refine (api_get 0 key HI3.out.rws HI3.out.good).mono ?_
              rintro e w4 hget
              rcases hget with ⟨xs, hm, a5, c5, rfl, hcl⟩ | ⟨hm, _, _⟩
              rotate_left
              · rw [HI3.out.got] at hm; cases hm
              rw [HI3.out.got] at hm
              cases hm
              have HI4 := Lib.hid (HI3.out.fr0 hcl.2.2)
              have Hcl := Lib.hid hcl
              clear hcl HI3
              go_wp2_with fail
              refine (sameInts_any _ _ [a, b, c] [a, b, c] _ Hcl.out.1.at (intsAt_bk (HB.out.fr HI4.out.fr fun h => h) rfl) (by simp) (by simp)).mono ?_
              rintro e w5 ⟨rfl, hf⟩
              have HI5 := Lib.hid (HI4.out.fr0 hf)
              clear hf Hcl HI4
              go_wp2_with fail
              go_roundw
              case rel => exact ⟨k + 1, _, _, _, by omega, by go_num, rfl, HI5.out.up (by omega)⟩
              case measure => simp [intOf]; omega
          · have g0 : (x.kind % 4 == 0) = false := by rw [beq_eq_false_iff_ne]; omega
            have g1 : (x.kind % 4 == 1) = true := by rw [beq_iff_eq]; exact h4
            clear h4
            rcases hff.out with f1 | ⟨f1, f2⟩
            · go_wp2_with fail
              refine (api_set _ _ _ _ (HI.out.rws.fr0 ((Fr.refl wr Nil).alloc _)) HI.out.good).mono ?_
              rintro e w3 ⟨rfl, hu⟩
              obtain ⟨S3, hI3⟩ := (HI.out.fr0 ((Fr.refl wr Nil).alloc _)).upd hu (good_set HI.out.good HI.out.few _ _ _ _) (cols_set _ _ _ _ _) (keep_set Hsame.out _ _)
              have HI3 := Lib.hid hI3
              clear hu hI3
              go_wp2_with fail
              refine (api_get 0 key HI3.out.rws HI3.out.good).mono ?_
              rintro e w4 hget
              rcases hget with ⟨xs, hm, a5, c5, rfl, hcl⟩ | ⟨hm, _, _⟩
              rotate_left
              · rw [HI3.out.got] at hm; cases hm
              rw [HI3.out.got] at hm
              cases hm
              have HI4 := Lib.hid (HI3.out.fr0 hcl.2.2)
              have Hcl := Lib.hid hcl
              clear hcl HI3
              go_wp2_with fail
              refine (sameInts_any _ _ [a, b, c] [a, b, c] _ Hcl.out.1.at (intsAt_bk (HB.out.fr HI4.out.fr fun h => h) rfl) (by simp) (by simp)).mono ?_
              rintro e w5 ⟨rfl, hf⟩
              have HI5 := Lib.hid (HI4.out.fr0 hf)
              clear hf Hcl HI4
              go_wp2_with fail
              go_roundw
              case rel => exact ⟨k + 1, _, _, _, by omega, by go_num, rfl, HI5.out.up (by omega)⟩
              case measure => simp [intOf]; omega
            · go_wp2_with fail
              refine (api_set _ _ _ _ (HI.out.rws.fr0 ((Fr.refl wr Nil).alloc _)) HI.out.good).mono ?_
              rintro e w3 ⟨rfl, hu⟩
              obtain ⟨S3, hI3⟩ := (HI.out.fr0 ((Fr.refl wr Nil).alloc _)).upd hu (good_set HI.out.good HI.out.few _ _ _ _) (cols_set _ _ _ _ _) (keep_set Hsame.out _ _)
              have HI3 := Lib.hid hI3
              clear hu hI3
              go_wp2_with fail
              refine (api_get 0 key HI3.out.rws HI3.out.good).mono ?_
              rintro e w4 hget
              rcases hget with ⟨xs, hm, a5, c5, rfl, hcl⟩ | ⟨hm, _, _⟩
              rotate_left
              · rw [HI3.out.got] at hm; cases hm
              rw [HI3.out.got] at hm
              cases hm
              have HI4 := Lib.hid (HI3.out.fr0 hcl.2.2)
              have Hcl := Lib.hid hcl
              clear hcl HI3
              go_wp2_with fail
              refine (sameInts_any _ _ [a, b, c] [a, b, c] _ Hcl.out.1.at (intsAt_bk (HB.out.fr HI4.out.fr fun h => h) rfl) (by simp) (by simp)).mono ?_
              rintro e w5 ⟨rfl, hf⟩
              have HI5 := Lib.hid (HI4.out.fr0 hf)
              clear hf Hcl HI4
              go_wp2_with fail
              go_roundw
              case rel => exact ⟨k + 1, _, _, _, by omega, by go_num, rfl, HI5.out.up (by omega)⟩
              case measure => simp [intOf]; omega
          · have g0 : (x.kind % 4 == 0) = false := by rw [beq_eq_false_iff_ne]; omega
            have g1 : (x.kind % 4 == 1) = false := by rw [beq_eq_false_iff_ne]; omega
            have g2 : (x.kind % 4 == 2) = true := by rw [beq_iff_eq]; exact h4
            clear h4
            rcases hff.out with f1 | ⟨f1, f2⟩
            · go_wp2_with fail
              refine (api_del _ _ (HI.out.rws.fr0 ((Fr.refl wr Nil).alloc _)) HI.out.good).mono ?_
              rintro e w3 ⟨rfl, hu⟩
              obtain ⟨S3, hI3⟩ := (HI.out.fr0 ((Fr.refl wr Nil).alloc _)).upd hu (good_del HI.out.good HI.out.few _ _) (cols_del _ _ _) (keep_del Hsame.out)
              have HI3 := Lib.hid hI3
              clear hu hI3
              go_wp2_with fail
              refine (api_get 0 key HI3.out.rws HI3.out.good).mono ?_
              rintro e w4 hget
              rcases hget with ⟨xs, hm, a5, c5, rfl, hcl⟩ | ⟨hm, _, _⟩
              rotate_left
              · rw [HI3.out.got] at hm; cases hm
              rw [HI3.out.got] at hm
              cases hm
              have HI4 := Lib.hid (HI3.out.fr0 hcl.2.2)
              have Hcl := Lib.hid hcl
              clear hcl HI3
              go_wp2_with fail
              refine (sameInts_any _ _ [a, b, c] [a, b, c] _ Hcl.out.1.at (intsAt_bk (HB.out.fr HI4.out.fr fun h => h) rfl) (by simp) (by simp)).mono ?_
              rintro e w5 ⟨rfl, hf⟩
              have HI5 := Lib.hid (HI4.out.fr0 hf)
              clear hf Hcl HI4
              go_wp2_with fail
              go_roundw
              case rel => exact ⟨k + 1, _, _, _, by omega, by go_num, rfl, HI5.out.up (by omega)⟩
              case measure => simp [intOf]; omega
            · go_wp2_with fail
              refine (api_del _ _ (HI.out.rws.fr0 ((Fr.refl wr Nil).alloc _)) HI.out.good).mono ?_
              rintro e w3 ⟨rfl, hu⟩
              obtain ⟨S3, hI3⟩ := (HI.out.fr0 ((Fr.refl wr Nil).alloc _)).upd hu (good_del HI.out.good HI.out.few _ _) (cols_del _ _ _) (keep_del Hsame.out)
              have HI3 := Lib.hid hI3
              clear hu hI3
              go_wp2_with fail
              refine (api_get 0 key HI3.out.rws HI3.out.good).mono ?_
              rintro e w4 hget
              rcases hget with ⟨xs, hm, a5, c5, rfl, hcl⟩ | ⟨hm, _, _⟩
              rotate_left
              · rw [HI3.out.got] at hm; cases hm
              rw [HI3.out.got] at hm
              cases hm
              have HI4 := Lib.hid (HI3.out.fr0 hcl.2.2)
              have Hcl := Lib.hid hcl
              clear hcl HI3
              go_wp2_with fail
              refine (sameInts_any _ _ [a, b, c] [a, b, c] _ Hcl.out.1.at (intsAt_bk (HB.out.fr HI4.out.fr fun h => h) rfl) (by simp) (by simp)).mono ?_
              rintro e w5 ⟨rfl, hf⟩
              have HI5 := Lib.hid (HI4.out.fr0 hf)
              clear hf Hcl HI4
              go_wp2_with fail
              go_roundw
              case rel => exact ⟨k + 1, _, _, _, by omega, by go_num, rfl, HI5.out.up (by omega)⟩
              case measure => simp [intOf]; omega
          · have g0 : (x.kind % 4 == 0) = false := by rw [beq_eq_false_iff_ne]; omega
            have g1 : (x.kind % 4 == 1) = false := by rw [beq_eq_false_iff_ne]; omega
            have g2 : (x.kind % 4 == 2) = false := by rw [beq_eq_false_iff_ne]; omega
            clear h4
            rcases hff.out with f1 | ⟨f1, f2⟩
            · go_wp2_with fail
              refine (api_copy (HI.out.rws.fr0 ((Fr.refl wr Nil).alloc _)) HI.out.good).mono ?_
              rintro e w3 ⟨rb3, S3, rfl, hu, hS3, hf3⟩
              have hI3 : KeepInv w0 w3 rb3 M S3 (k + 1) key [a, b, c] := ⟨hu, HI.out.good, HI.out.few, HI.out.cols, HI.out.got, fun j hj => Nat.le_trans (Nat.le_trans HI.out.fr.size (by simp)) (hS3 j hj), (HI.out.fr.alloc _).trans0 hf3⟩
              clear hS3 hf3
              have HI3 := Lib.hid hI3
              clear hu hI3
              go_wp2_with fail
              refine (api_get 0 key HI3.out.rws HI3.out.good).mono ?_
              rintro e w4 hget
              rcases hget with ⟨xs, hm, a5, c5, rfl, hcl⟩ | ⟨hm, _, _⟩
              rotate_left
              · rw [HI3.out.got] at hm; cases hm
              rw [HI3.out.got] at hm
              cases hm
              have HI4 := Lib.hid (HI3.out.fr0 hcl.2.2)
              have Hcl := Lib.hid hcl
              clear hcl HI3
              go_wp2_with fail
              refine (sameInts_any _ _ [a, b, c] [a, b, c] _ Hcl.out.1.at (intsAt_bk (HB.out.fr HI4.out.fr fun h => h) rfl) (by simp) (by simp)).mono ?_
              rintro e w5 ⟨rfl, hf⟩
              have HI5 := Lib.hid (HI4.out.fr0 hf)
              clear hf Hcl HI4
              go_wp2_with fail
              go_roundw
              case rel => exact ⟨k + 1, _, _, _, by omega, by go_num, rfl, HI5.out.up (by omega)⟩
              case measure => simp [intOf]; omega
            · go_wp2_with fail
              refine (api_copy (HI.out.rws.fr0 ((Fr.refl wr Nil).alloc _)) HI.out.good).mono ?_
              rintro e w3 ⟨rb3, S3, rfl, hu, hS3, hf3⟩
              have hI3 : KeepInv w0 w3 rb3 M S3 (k + 1) key [a, b, c] := ⟨hu, HI.out.good, HI.out.few, HI.out.cols, HI.out.got, fun j hj => Nat.le_trans (Nat.le_trans HI.out.fr.size (by simp)) (hS3 j hj), (HI.out.fr.alloc _).trans0 hf3⟩
              clear hS3 hf3
              have HI3 := Lib.hid hI3
              clear hu hI3
              go_wp2_with fail
              refine (api_get 0 key HI3.out.rws HI3.out.good).mono ?_
              rintro e w4 hget
              rcases hget with ⟨xs, hm, a5, c5, rfl, hcl⟩ | ⟨hm, _, _⟩
              rotate_left
              · rw [HI3.out.got] at hm; cases hm
              rw [HI3.out.got] at hm
              cases hm
              have HI4 := Lib.hid (HI3.out.fr0 hcl.2.2)
              have Hcl := Lib.hid hcl
              clear hcl HI3
              go_wp2_with fail
              refine (sameInts_any _ _ [a, b, c] [a, b, c] _ Hcl.out.1.at (intsAt_bk (HB.out.fr HI4.out.fr fun h => h) rfl) (by simp) (by simp)).mono ?_
              rintro e w5 ⟨rfl, hf⟩
              have HI5 := Lib.hid (HI4.out.fr0 hf)
              clear hf Hcl HI4
              go_wp2_with fail
              go_roundw
              case rel => exact ⟨k + 1, _, _, _, by omega, by go_num, rfl, HI5.out.up (by omega)⟩
              case measure => simp [intOf]; omega
      · have HI1 : Hid (KeepInv w0 wr rb M S 101 key [a, b, c]) := HI.out.up (by omega)
        clear HI
        obtain ⟨M9, hd, hn⟩ := keep_last HI1.out
        have Hd := Lib.hid hd
        have Hn := Lib.hid hn
        clear hd hn
        go_wp2_with fail
        refine (api_del 0 key HI1.out.rws HI1.out.good).mono ?_
        rintro e w3 ⟨he, hu⟩
        have hgd := good_del HI1.out.good HI1.out.few 0 key
        rw [Hd.out] at he hu hgd
        subst he
        obtain ⟨S3, h1, h2, h3⟩ := hu.below HI1.out.fr HI1.out.own
        have HR3 := Lib.hid h1
        have HG3 := Lib.hid hgd.1
        have HF3 := Lib.hid h3
        clear hu hgd h1 h2 h3
        go_wp2_with fail
        refine (api_get 0 key HR3.out HG3.out).mono ?_
        rintro e w4 hget
        rcases hget with ⟨xs, hm, _⟩ | ⟨_, rfl, hf⟩
        · rw [Hn.out] at hm; cases hm
        have HF4 := Lib.hid (HF3.out.trans0 hf)
        clear hf
        go_wp2_with fail
        refine (works_any _).mono ?_
        rintro e w5 ⟨rfl, hf⟩
        have HF5 := Lib.hid (HF0.out.trans0 (HF4.out.trans0 hf))
        clear hf
        go_wp2_with fail
        go_ret
        exact ⟨rfl, HF5.out⟩
end Go.Proofs.Ytljgifjokdppgaa
