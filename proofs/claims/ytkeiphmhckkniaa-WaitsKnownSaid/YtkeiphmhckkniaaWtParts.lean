/-
  Walks of waits.Acyclic and waits.Parts.
  No condition but sizes.
-/
import Derived.Test.YtkeiphmhckkniaaWtSnoc
import Derived.Test.YtkeiphmhckkniaaWtPartsP
import Derived.Test.YtkeiphmhckkniaaWtSort
import Derived.Test.YtkeiphmhckkniaaWtReach
import Derived.Laws.EntriesVeiled
namespace Go.Proofs.Ytkeiphmhckkniaa
open Go Go.RowKit

theorem acyclic_any (gv : Value) (G : List (List Int)) (w : World) (h : GraphAt w gv G) (hl : G.length ≤ 1000) :
    Calls Try.prog 18 #[gv] w fun e w' => e = .returned (.bool (okP G [])) ∧ Fr w w' Nil := by
  have H := Lib.hid h
  obtain ⟨ga, gcap, rfl⟩ := h.shape
  clear h
  go_enter Try.func18, Try.ntmps18
  go_wp2_with fail
  refine (sorted_any _ G w H.out hl).mono ?_
  rintro e w1 ⟨a, c, rfl, ho, hn, hf⟩
  have HF := Lib.hid hf
  clear ho hn hf
  go_wp2_with fail
  go_ret
  exact ⟨rfl, HF.out⟩
theorem goes_any (bx rb n c a : Nat) (b : Int) (xs : List Int) (ua : Option Addr) (uc : Nat) (w : World) (h0 : w.cell? ⟨bx, 0, none⟩ = some (.slice (some ⟨rb, 0, none⟩) n c)) (ha : a < n) (h1 : w.cell? ⟨rb, a, none⟩ = some (.slice ua xs.length uc))
    (h2 : OwnInts w 3 (.slice ua xs.length uc) xs) (hs : xs.Pairwise (· < ·)) (hl : xs.length ≤ 1000000) :
    Calls Try.prog 34 #[.int .i64 (a : Int), .int .i64 b, .pointer (some ⟨bx, 0, none⟩)] w fun e w' => e = .returned (.bool (xs.contains b)) ∧ Fr w w' Nil := by
  have H2 := Lib.hid h2
  have HS := Lib.hid hs
  have haa : (a : Int) < (n : Int) := by omega
  clear h2 hs
  generalize hd : xs.contains b = d
  have HD := Lib.hid hd
  clear hd
  go_enter Try.func34, Try.ntmps34
  go_wp2_with fail
  refine (search_int _ xs b w H2.out HS.out hl).mono ?_
  rintro e w1 ⟨⟨m, rfl⟩, hf⟩
  rw [HD.out]
  have HF := Lib.hid hf
  clear hf
  go_wp2_with fail
  go_ret
  exact ⟨rfl, HF.out⟩
/-- What the first m reach. -/
def rowsTo (G : List (List Int)) (m : Nat) : List (List Int) := (List.range m).map (reachP G) ++ List.replicate (G.length - m) []
theorem rowsTo_set {G : List (List Int)} {m : Nat} (h : m < G.length) : (rowsTo G m).set m (reachP G m) = rowsTo G (m + 1) := by
  unfold rowsTo
  obtain ⟨k, hk⟩ : ∃ k, G.length = m + k + 1 := ⟨G.length - m - 1, by omega⟩
  rw [List.set_append_right _ _ (by simp), List.length_map, List.length_range, Nat.sub_self, hk, show m + k + 1 - m = k + 1 by omega, show m + k + 1 - (m + 1) = k by omega, List.replicate_succ, List.set_cons_zero, List.range_succ]
  simp
theorem rowsTo_len (G : List (List Int)) (m : Nat) (h : m ≤ G.length) : (rowsTo G m).length = G.length := by unfold rowsTo; simp; omega
theorem rowsTo_all {G : List (List Int)} {k : Nat} (h : k < G.length) : (rowsTo G G.length)[k]? = some (reachP G k) := by
  unfold rowsTo
  rw [Nat.sub_self, List.replicate_zero, List.append_nil, List.getElem?_map, List.getElem?_range h]; rfl
theorem reachP_len (G : List (List Int)) (s : Nat) : (reachP G s).length ≤ G.length := by
  unfold reachP
  rw [List.length_map]
  have := List.length_filter_le (fun t => wayP G s t) (List.range G.length)
  simpa using this
abbrev goesV (bx : Nat) : Value := .func (.func 34) #[] #[.pointer (some ⟨bx, 0, none⟩)]
/-- Rows of rows that are told, of the call's own. -/
def RowsRet (P : List (List Int)) (w : World) (e : Ending) (w' : World) : Prop := ∃ v, e = .returned v ∧ Lies w w' [gT v P]
set_option maxRecDepth 100000 in
set_option maxHeartbeats 4000000 in
theorem parts_any (gv : Value) (G : List (List Int)) (w : World) (h : GraphAt w gv G) (hl : G.length ≤ 1000) :
    Calls Try.prog 21 #[gv] w (RowsRet (partsP G) w) := by
  obtain ⟨ir, hir, hr0, hr1, hr2⟩ := info_parts (P := Try.prog) (e := 27) (z := .slice none 0 0) (size := 1) (bytes := 24) (by kernel_rfl)
  obtain ⟨ib, hib, hz0, hz1, hz2⟩ := info_parts (P := Try.prog) (e := 4) (z := .bool false) (size := 1) (bytes := 1) (by kernel_rfl)
  have hrl := h
  obtain ⟨ga, gcap, rfl⟩ := h.shape
  have HG := Lib.hid hrl
  have Hb2 : Hid (G.length ≤ maxLen) := by
    have : G.length ≤ maxLen := by unfold maxLen; omega
    exact this
  obtain ⟨w1, hrun, hown, hgr⟩ := run_make_full (P := Try.prog) w 0 22 27 ir (.slice none 0 0) 1 Try.underlying22 hir hr0 hr1 .i64 .i64 G.length (by rw [hr2]; omega) Hb2.out (Nat.zero_le _)
  have HL0 := Lib.hid (((Lies.nil (Fr.refl w Nil)).gmade rfl hown ((Fr.refl w Nil).grown hgr (fun k hk => by cases hk))).newBk 22 #[.slice (some ⟨w.heap.size, 0, none⟩) G.length G.length])
  clear h hrl hown hgr
  go_enter Try.func21, Try.ntmps21
  go_wp2_with fail
  generalize w.heap.size = rb at HL0 ⊢
  obtain ⟨bx, hbx⟩ : ∃ b, w1.heap.size = b := ⟨_, rfl⟩
  rw [hbx] at HL0 ⊢
  clear hbx hrun
  generalize w1.alloc (.cells #[.slice (some ⟨rb, 0, none⟩) G.length G.length] 22) = w2 at *
  go_loopw [17] (fun vi wr => ∃ m : Nat, m ≤ G.length ∧ vi = .int .i64 m ∧ Lies w wr [gT (.slice (some ⟨rb, 0, none⟩) G.length G.length) (rowsTo G m), bkT bx 22 [.slice (some ⟨rb, 0, none⟩) G.length G.length]]) (fun vi _ => G.length - (intOf vi).toNat)
  case atStart => exact ⟨0, by omega, rfl, by have := HL0.out; unfold rowsTo; simpa using this⟩
  case round =>
    obtain ⟨m, hm, rfl, hL⟩ := hrel
    have HL := Lib.hid hL
    have q3 := (hL.bk 1 rfl).cell 0
    clear hL HL0
    by_cases hlt : m < G.length
    · have hml : (m : Int) < (G.length : Int) := by omega
      go_wp2_with fail
      refine wp_region_sink 6 (fun w' : World => w'.cell? ⟨bx, 0, none⟩ = some (.slice (some ⟨rb, 0, none⟩) G.length G.length)) (by kernel_rfl) ?_
      have hS : (fun w' : World => w'.cell? ⟨bx, 0, none⟩ = some (.slice (some ⟨rb, 0, none⟩) G.length G.length)) wr.drew := q3
      have HL2 := Lib.hid (HL.out.fr0 (Fr.refl wr Nil).drew)
      clear q3 HL
      generalize wr.drew = w3 at *
      refine wpAnyS_take (i := 0) (v := ?_) rfl (by kernel_rfl) (fun _ _ _ h => h) (by rfl) hS ?_ ?_
      rotate_left
      · intro w' hS'
        (try dsimp only at hS')
        go_simp <;> with_reducible rfl
      try simp only [Act.put, List.setIfInBounds_toArray, List.set_cons_zero, List.set_cons_succ]
      refine wpAnyS_take (i := 1) (v := ?_) rfl (by kernel_rfl) (fun _ _ _ h => h) (by rfl) hS ?_ ?_
      rotate_left
      · intro w' hS'
        (try dsimp only at hS')
        go_simp <;> with_reducible rfl
      try simp only [Act.put, List.setIfInBounds_toArray, List.set_cons_zero, List.set_cons_succ]
      refine wpAnyS_take (i := 2) (v := ?_) rfl (by kernel_rfl) (fun _ _ _ h => h) (by rfl) hS ?_ ?_
      rotate_left
      · intro w' hS'
        (try dsimp only at hS')
        go_simp <;> with_reducible rfl
      try simp only [Act.put, List.setIfInBounds_toArray, List.set_cons_zero, List.set_cons_succ]
      refine wpAnyS_take (i := 3) (v := ?_) rfl (by kernel_rfl) (fun _ _ _ h => h) (by rfl) hS ?_ ?_
      rotate_left
      · intro w' hS'
        (try dsimp only at hS')
        go_simp <;> with_reducible rfl
      try simp only [Act.put, List.setIfInBounds_toArray, List.set_cons_zero, List.set_cons_succ]
      refine wpAnyS_one (i := 4) rfl (by kernel_rfl) (by decide) (by rfl) fun K hK => ?_
      go_simp
      refine (reach_in _ G m w3 (HG.out.fr0 HL2.out.fr) hlt hl).mono ?_
      rintro e w4 ⟨a4, c4, rfl, ho4, hn4, hf4⟩
      have HL4 := Lib.hid (HL2.out.addRow ho4 hn4 hf4)
      have hS4 : (fun w' : World => w'.cell? ⟨bx, 0, none⟩ = some (.slice (some ⟨rb, 0, none⟩) G.length G.length)) w4 := (HL4.out.bk 1 rfl).cell 0
      refine hK.out _ _ hS4 ?_
      clear hK K ho4 hn4 hf4 hS
      try simp only [Act.put, List.setIfInBounds_toArray, List.set_cons_zero, List.set_cons_succ]
      refine wpAnyS_take (i := 5) (v := ?_) rfl (by kernel_rfl) (fun _ _ _ h => h) (by rfl) hS4 ?_ ?_
      rotate_left
      · intro w' hS'
        (try dsimp only at hS')
        go_simp <;> with_reducible rfl
      try simp only [Act.put, List.setIfInBounds_toArray, List.set_cons_zero, List.set_cons_succ]
      obtain ⟨xs, hxs⟩ : ∃ xs, (rowsTo G m)[m]? = some xs := ⟨_, List.getElem?_eq_getElem (by rw [rowsTo_len G m hm]; exact hlt)⟩
      obtain ⟨ua, uc, q4, -, f4⟩ := HL4.out.gcell 0 rfl m xs hxs
      have HL5 := HL4.out.gput 0 2 (by decide) rfl rfl m (by rw [rowsTo_len G m hm]; exact hlt)
      rw [rowsTo_set hlt] at HL5
      have HL5 := Lib.hid HL5
      clear hxs
      refine wpAnyS_last (i := 6) rfl (by kernel_rfl) (by decide) (by kernel_rfl) (by rfl) fun K hK => ?_
      go_simp
      refine hK.out _ _ ?_
      clear hK K hS4 q4 f4
      go_wp2_with fail
      go_roundw
      case rel => exact ⟨m + 1, by omega, by go_num, HL5.out⟩
      case measure => simp [intOf]; omega
    · obtain rfl : m = G.length := by omega
      obtain ⟨w3, hrun3, hown3, hgr3⟩ := run_make_full (P := Try.prog) wr 0 51 4 ib (.bool false) 1 Try.underlying51 hib hz0 hz1 .i64 .i64 G.length (by rw [hz2]; omega) Hb2.out (Nat.zero_le _)
      have HB0 : OwnBools w3 wr.heap.size G.length G.length (List.replicate G.length false) := by rw [← thOf_nil]; exact own_made hown3
      have HL3 := Lib.hid ((HL.out.add (boT wr.heap.size G.length (List.replicate G.length false)) (S := fun k => k = wr.heap.size) ⟨HB0, fun _ => Iff.rfl⟩ (fun k hk => by omega) ((Fr.refl wr Nil).grown hgr3 (fun k hk => by cases hk))).gnil)
      clear hown3 hgr3 HB0 HL q3
      go_wp2_with fail
      generalize wr.heap.size = db at HL3 ⊢
      clear hrun3
      obtain ⟨vs, hL4⟩ := HL3.out.gfix 0 rfl
      have HL4 := Lib.hid hL4
      clear hL4 HL3
      go_loopw [6, 33] (fun vo vi wr => ∃ (m : Nat) (d : List Bool), m ≤ G.length ∧ vi = .int .i64 m ∧ MarkOk G m d ∧ Lies w wr [gvT (.slice (some ⟨rb, 0, none⟩) G.length G.length) vs (rowsTo G G.length), bkT bx 22 [.slice (some ⟨rb, 0, none⟩) G.length G.length], boT db G.length d, gT vo (partsTo G m)]) (fun _ vi _ => G.length - (intOf vi).toNat)
      case atStart => exact ⟨0, _, by omega, rfl, MarkOk.start G, HL4.out⟩
      case round =>
        obtain ⟨m, d, hm, rfl, hmk, hL⟩ := hrel
        have HL := Lib.hid hL
        have HMK := Lib.hid hmk
        clear hL hmk HL4
        by_cases hlt2 : m < G.length
        · have hml : (m : Int) < (G.length : Int) := by omega
          have q7 := (HL.out.bools 2 rfl).cell HMK.out.1 m hlt2
          have hdm : d.getD m false = doneB G m m := HMK.out.2 m (Nat.le_refl _) hlt2
          rw [hdm] at q7
          clear hdm
          cases hd : doneB G m m with
          | true =>
            rw [hd] at q7
            have HMK2 := Lib.hid (HMK.out.skip hd)
            have HL2 := HL.out
            rw [← partsTo_skip hd] at HL2
            have HL2 := Lib.hid HL2
            clear hd
            go_wp2_with fail
            go_roundw
            case rel => exact ⟨m + 1, d, by omega, by go_num, HMK2.out, HL2.out⟩
            case measure => simp [intOf]; omega
          | false =>
            rw [hd] at q7
            have HD := Lib.hid hd
            clear hd
            have q3 := (HL.out.bk 1 rfl).cell 0
            obtain ⟨ra, rc, hvs, qr, -⟩ := HL.out.gvcell 0 rfl m (reachP G m) (rowsTo_all hlt2)
            have HVS := Lib.hid hvs
            clear hvs
            have HL2 := Lib.hid (HL.out.lit #[.int .i64 (m : Int)] 1 [(m : Int)] rfl rfl (by decide))
            have f0 := (Fr.refl wr Nil).alloc (.cells #[.int .i64 (m : Int)] 3)
            have q31 := f0.cell q3 (fun h => h)
            have qr1 := f0.cell qr (fun h => h)
            clear f0
            have hrow := reachP_len G m
            have HRA := Lib.hid (rowsTo_all hlt2)
            have HPK := Lib.hid (part_picks hlt2 HD.out)
            have HRI := Lib.hid (reachP_inc G m)
            have HNAT : Hid (∀ k, k < (reachP G m).length → ∃ t : Nat, (reachP G m)[k]? = some (t : Int) ∧ t < G.length) := fun k hk => by
              have h1 : (reachP G m)[k] ∈ reachP G m := List.getElem_mem hk
              obtain ⟨t, e, hl⟩ := mem_reachP.1 h1
              exact ⟨t, by rw [List.getElem?_eq_getElem hk, e], hl.lt⟩
            have HMI : Hid (∀ d', MarkIn G m (reachP G m) d' → MarkOk G (m + 1) d') := fun d' h => h.done
            have hvs2 := HVS.out
            generalize reachP G m = xs at *
            clear hvs2
            go_wp2_with fail
            go_loopw [9, 47] (fun vp vk wq => ∃ (k : Nat) (d' : List Bool), k ≤ xs.length ∧ vk = .int .i64 k ∧ MarkIn G m (xs.take k) d' ∧ Lies w wq [gvT (.slice (some ⟨rb, 0, none⟩) G.length G.length) vs (rowsTo G G.length), bkT bx 22 [.slice (some ⟨rb, 0, none⟩) G.length G.length], boT db G.length d', gT u6 (partsTo G m), owT vp ((m : Int) :: (xs.take k).filter (pickB G m))]) (fun _ vk _ => xs.length - (intOf vk).toNat)
            case atStart => exact ⟨0, d, by omega, rfl, MarkIn.start HMK.out, HL2.out⟩
            case round =>
              obtain ⟨k, d', hk, rfl, hmi, hL3⟩ := hrel
              have HL3 := Lib.hid hL3
              have HMI3 := Lib.hid hmi
              clear hL3 hmi HL2 q7 q3 q31 qr qr1
              obtain ⟨ra', rc', hv', qr, ho⟩ := HL3.out.gvcell 0 rfl m xs HRA.out
              rw [HVS.out] at hv'
              simp only [Option.some.injEq, Value.slice.injEq, true_and] at hv'
              obtain ⟨rfl, rfl⟩ := hv'
              by_cases hlt3 : k < xs.length
              · obtain ⟨b5, c5, hv5, _⟩ := ho.form (by omega)
                simp only [Value.slice.injEq, true_and] at hv5
                obtain ⟨rfl, rfl⟩ := hv5
                obtain ⟨t, htk, htn⟩ := HNAT.out k hlt3
                have q51 := ho.cell rfl k hlt3
                rw [List.getD_eq_getElem?_getD, htk] at q51
                simp only [Option.getD_some] at q51
                have HTS : Hid (xs.take (k + 1) = xs.take k ++ [(t : Int)]) := by
                  have : xs.take (k + 1) = xs.take k ++ [(t : Int)] := by rw [List.take_add_one, htk]; rfl
                  exact this
                have htt : (t : Int) < (G.length : Int) := by omega
                have HSK : Hid (pickB G m (t : Int) = false → ∃ d', MarkIn G m (xs.take (k + 1)) d' ∧ Lies w wr [gvT (.slice (some ⟨rb, 0, none⟩) G.length G.length) vs (rowsTo G G.length), bkT bx 22 [.slice (some ⟨rb, 0, none⟩) G.length G.length], boT db G.length d', gT u6 (partsTo G m), owT u9 ((m : Int) :: (xs.take (k + 1)).filter (pickB G m))]) := fun h => by
                  refine Lib.hid ⟨d', ?_, ?_⟩
                  · rw [HTS.out]; exact HMI3.out.skip h
                  · rw [HTS.out, List.filter_append, List.filter_cons_of_neg (by rw [h]; decide), List.filter_nil, List.append_nil]
                    exact HL3.out
                clear htk ho qr
                by_cases hgt : m < t
                · have d1 : decide ((m : Int) < (t : Int)) = true := decide_eq_true (by omega)
                  have q3 := (HL3.out.bk 1 rfl).cell 0
                  obtain ⟨ta, tc, -, qt, hot⟩ := HL3.out.gvcell 0 rfl t (reachP G t) (rowsTo_all htn)
                  have HOT := Lib.hid hot
                  have HPB : Hid (pickB G m (t : Int) = (reachP G t).contains (m : Int)) := by
                    have : pickB G m (t : Int) = (reachP G t).contains (m : Int) := by unfold pickB; rw [d1, Bool.true_and, Int.toNat_natCast]
                    exact this
                  clear hot
                  go_wp2_with fail
                  refine (goes_any bx rb G.length G.length t (m : Int) (reachP G t) ta tc wr q3 htn qt HOT.out (reachP_inc G t) (by have := reachP_len G t; omega)).mono ?_
                  rintro e w5 ⟨rfl, hf5⟩
                  rw [← HPB.out]
                  have HF5 := Lib.hid hf5
                  clear hf5 q3 qt q51
                  cases hp : pickB G m (t : Int) with
                  | true =>
                    have HPT := Lib.hid hp
                    have HL5 := Lib.hid (HL3.out.fr0 HF5.out)
                    have HK0 := Lib.hid ((LK.start HL5.out 0).newBk 3 #[.int .i64 (t : Int)])
                    have hfl : ((m : Int) :: (xs.take k).filter (pickB G m)).length ≤ 100000 := by
                      have := List.length_filter_le (pickB G m) (xs.take k)
                      simp only [List.length_cons, List.length_take] at this ⊢
                      omega
                    have HFL := Lib.hid hfl
                    clear hp hfl
                    go_wp2_with (at_builtin; refine wpList_plain rfl fun K hK => ?_; refine wp_oapp _ _ rfl HK0.out rfl rfl 4 rfl 5 rfl HFL.out ?_; intro a6 c6 w6 hk6; have HK6 := Lib.hid hk6; have q66 := (hk6.1.bools 2 rfl).cell HMI3.out.1 t htn; have f66 := (hk6.1.bools 2 rfl).free t; refine hK _ _ ?_; clear hK hk6)
                    have HL7 := Lib.hid ((HK6.out.1.take 5).storedB 2 rfl t true)
                    have HMP := Lib.hid (HMI3.out.put htn HPT.out)
                    have HFI : Hid ((m : Int) :: (xs.take (k + 1)).filter (pickB G m) = ((m : Int) :: (xs.take k).filter (pickB G m)) ++ [(t : Int)]) := by
                      have : (m : Int) :: (xs.take (k + 1)).filter (pickB G m) = ((m : Int) :: (xs.take k).filter (pickB G m)) ++ [(t : Int)] := by
                        rw [HTS.out, List.filter_append, List.filter_cons_of_pos HPT.out, List.filter_nil]; rfl
                      exact this
                    go_roundw
                    case rel => exact ⟨k + 1, d'.set t true, by omega, by go_num, by rw [HTS.out]; exact HMP.out, by rw [HFI.out]; exact HL7.out⟩
                    case measure => simp [intOf]; omega
                  | false =>
                    obtain ⟨d2, h1, h2⟩ := (HSK.out hp)
                    have H1 := Lib.hid h1
                    have H2 := Lib.hid (h2.fr0 HF5.out)
                    clear hp h1 h2
                    go_wp2_with fail
                    go_roundw
                    case rel => exact ⟨k + 1, d2, by omega, by go_num, H1.out, H2.out⟩
                    case measure => simp [intOf]; omega
                · have d1 : decide ((m : Int) < (t : Int)) = false := decide_eq_false (by omega)
                  obtain ⟨d2, h1, h2⟩ := (HSK.out (by unfold pickB; rw [d1]; rfl))
                  have H1 := Lib.hid h1
                  have H2 := Lib.hid h2
                  clear h1 h2
                  go_wp2_with fail
                  go_roundw
                  case rel => exact ⟨k + 1, d2, by omega, by go_num, H1.out, H2.out⟩
                  case measure => simp [intOf]; omega
              · obtain rfl : k = xs.length := by omega
                rw [List.take_length] at HMI3 HL3
                rw [HPK.out] at HL3
                have HMK4 := Lib.hid (HMI.out _ HMI3.out)
                obtain ⟨pa, pc, rfl⟩ := (HL3.out.row 4 rfl).shape
                have HL4 := Lib.hid (HL3.out.newBk 27 #[.slice pa (ints (partOf G m)).length pc])
                have HPL : Hid ((partsTo G m).length ≤ 100000) := by
                  have := partsTo_len G m
                  have : (partsTo G m).length ≤ 100000 := by omega
                  exact this
                clear ho qr
                go_wp2_with (at_builtin; go_loud (refine wpList_plain rfl fun K hK => ?_; refine wp_gsnoc _ _ rfl HL4.out rfl rfl 3 4 5 (by decide) rfl rfl rfl HPL.out ?_; intro a6 c6 w6 hk6; have HK6 := Lib.hid hk6; refine hK _ _ ?_; clear hK hk6))
                have HL7 := HK6.out
                rw [← partsTo_take HD.out] at HL7
                have HL7 := Lib.hid HL7
                clear HK6
                go_roundw
                case rel => exact ⟨m + 1, _, by omega, by go_num, HMK4.out, HL7.out⟩
                case measure => simp [intOf]; omega
        · obtain rfl : m = G.length := by omega
          have HL5 := Lib.hid ((HL.out.pull 0 3 _ (by decide) rfl).take 1)
          go_wp2_with fail
          go_ret
          exact ⟨_, rfl, HL5.out⟩
end Go.Proofs.Ytkeiphmhckkniaa
