/-
  Walk of the document's Sorted.
  No condition but sizes.
-/
import Derived.Test.YtkeiphmhckkniaaWtDoc
import Derived.Test.YtkeiphmhckkniaaWtSort
namespace Go.Proofs.Ytkeiphmhckkniaa
open Go Go.RowKit

def canB (G : List (List Int)) (o : List Nat) (i k : Nat) : Bool := !o.contains i && (List.range k).all fun j => o.contains j || !sees G j i
theorem canB_succ (G : List (List Int)) (o : List Nat) (i k : Nat) : canB G o i (k + 1) = (canB G o i k && (o.contains k || !sees G k i)) := by
  unfold canB
  rw [List.range_succ, List.all_append, Bool.and_assoc]
  simp
theorem canB_all {G : List (List Int)} {o : List Nat} {i : Nat} (hi : i < G.length) : canB G o i G.length = true ↔ i ∈ nextO G o := by
  unfold nextO canB
  rw [List.mem_filter, List.mem_range]
  exact ⟨fun h => ⟨hi, h⟩, fun h => h.2⟩
/-- The least of those from j on that can be next. -/
def Least (G : List (List Int)) (o : List Nat) (j : Nat) (v : Int) : Prop := (v = -1 ∧ ∀ x ∈ nextO G o, x < j) ∨ ∃ x : Nat, v = (x : Int) ∧ x ∈ nextO G o ∧ j ≤ x ∧ ∀ y ∈ nextO G o, j ≤ y → x ≤ y
theorem Least.start (G : List (List Int)) (o : List Nat) : Least G o G.length (-1) := .inl ⟨rfl, fun _ hx => (mem_nextO.1 hx).1⟩
theorem Least.skip {G : List (List Int)} {o : List Nat} {j : Nat} {v : Int} (h : Least G o (j + 1) v) (hj : j ∉ nextO G o) : Least G o j v := by
  rcases h with ⟨h1, h2⟩ | ⟨x, h1, h2, h3, h4⟩
  · refine .inl ⟨h1, fun x hx => ?_⟩
    have := h2 x hx
    have : x ≠ j := fun e => hj (by rw [← e]; exact hx)
    omega
  · refine .inr ⟨x, h1, h2, by omega, fun y hy hjy => h4 y hy ?_⟩
    have : y ≠ j := fun e => hj (by rw [← e]; exact hy)
    omega
theorem Least.take {G : List (List Int)} {o : List Nat} {j : Nat} (hj : j ∈ nextO G o) : Least G o j (j : Int) := .inr ⟨j, rfl, hj, Nat.le_refl _, fun _ _ h => h⟩
theorem Least.none {G : List (List Int)} {o : List Nat} {v : Int} (h : Least G o 0 v) (hv : v < 0) : nextO G o = [] := by
  rcases h with ⟨_, h2⟩ | ⟨_, h1, _⟩
  · cases hN : nextO G o with
    | nil => rfl
    | cons y l =>
      have := h2 y (by rw [hN]; simp)
      omega
  · omega
theorem Least.some {G : List (List Int)} {o : List Nat} {v : Int} (h : Least G o 0 v) (hv : 0 ≤ v) : ∃ x : Nat, v = (x : Int) ∧ x ∈ nextO G o ∧ (nextO G o).getD 0 0 = x := by
  rcases h with ⟨h1, _⟩ | ⟨x, h1, h2, _, h4⟩
  · omega
  · exact ⟨x, h1, h2, next_head h2 fun k hk => h4 k hk (by omega)⟩
theorem go_next {G : List (List Int)} {o : List Nat} {x : Nat} (hx : x ∈ nextO G o) (hh : (nextO G o).getD 0 0 = x) (ho : Okay G.length o) (hg : orderGo G [] (G.length - o.length) o = orderP G []) : orderGo G [] (G.length - (o ++ [x]).length) (o ++ [x]) = orderP G [] := by
  have h2 := ho.snoc hx
  have h3 := h2.len
  simp only [List.length_append, List.length_singleton] at h3
  obtain ⟨f, hf⟩ : ∃ f, G.length - o.length = f + 1 := ⟨G.length - o.length - 1, by omega⟩
  rw [hf] at hg
  unfold orderGo at hg
  have hne : (nextO G o).length ≠ 0 := fun e => by rw [List.eq_nil_of_length_eq_zero e] at hx; cases hx
  rw [if_neg hne] at hg
  have e0 : pickAt [] o.length (nextO G o).length = 0 := by simp [pickAt]
  rw [e0, hh] at hg
  rw [← hg]
  congr 1
  simp; omega
theorem go_stop {G : List (List Int)} {o : List Nat} (hn : nextO G o = [] ∨ o.length = G.length) (hg : orderGo G [] (G.length - o.length) o = orderP G []) : orderP G [] = o := by
  rw [← hg]
  rcases hn with hn | hn
  · cases G.length - o.length with
    | zero => rfl
    | succ f => unfold orderGo; rw [hn]; rfl
  · rw [hn, Nat.sub_self]; rfl
set_option maxRecDepth 100000 in
set_option maxHeartbeats 4000000 in
theorem dsorted_any (gv : Value) (G : List (List Int)) (w : World) (h : GraphAt w gv G) (hl : G.length ≤ 1000) :
    Calls Try.prog 14 #[gv] w (SortedRet G w) := by
  obtain ⟨ib, hib, hz0, hz1, hz2⟩ := info_parts (P := Try.prog) (e := 4) (z := .bool false) (size := 1) (bytes := 1) (by kernel_rfl)
  have hrl := h
  obtain ⟨ga, gcap, rfl⟩ := h.shape
  have HG := Lib.hid hrl
  have Hb2 : Hid (G.length ≤ maxLen) := by
    have : G.length ≤ maxLen := by unfold maxLen; omega
    exact this
  obtain ⟨w1, hrun, hown, hgr⟩ := run_make_full (P := Try.prog) w 0 51 4 ib (.bool false) 1 Try.underlying51 hib hz0 hz1 .i64 .i64 G.length (by rw [hz2]; omega) Hb2.out (Nat.zero_le _)
  have HL0 := Lib.hid (((Lies.nil (Fr.refl w Nil)).add (boT w.heap.size G.length (thOf G.length [])) (S := fun k => k = w.heap.size) ⟨own_made hown, fun _ => Iff.rfl⟩ (fun k hk => by omega) ((Fr.refl w Nil).grown hgr (fun k hk => by cases hk))).addRow (v := .slice none 0 0) (xs := ints []) (World.ownsRow_nil _ _ _ _) (fun _ h => by cases h) (Fr.refl _ _))
  clear h hrl hown hgr
  go_enter Try.func14, Try.ntmps14
  go_wp2_with fail
  generalize w.heap.size = db at HL0 ⊢
  clear hrun
  go_loopw [4] (fun vo wr => ∃ o : List Nat, Okay G.length o ∧ orderGo G [] (G.length - o.length) o = orderP G [] ∧ (∃ oa oc, vo = .slice oa o.length oc) ∧ Lies w wr [boT db G.length (thOf G.length o), owT vo (ints o)]) (fun vo _ => G.length - (match vo with | .slice _ n _ => n | _ => 0))
  case atStart => exact ⟨[], ⟨List.Pairwise.nil, fun _ h => by cases h⟩, rfl, ⟨_, _, rfl⟩, HL0.out⟩
  case round =>
    obtain ⟨o, hok, hgo, ⟨oa, oc, rfl⟩, hL⟩ := hrel
    have HL := Lib.hid hL
    have HOK := Lib.hid hok
    have HGO := Lib.hid hgo
    have hol := hok.len
    clear hL hok hgo HL0
    by_cases hlt : o.length < G.length
    · have hll : (o.length : Int) < (G.length : Int) := by omega
      go_wp2_with fail
      go_loop [6, 7, 8, 9] (fun vn vi _ _ => ∃ (j : Nat) (x : Int), j ≤ G.length ∧ vi = .int .i64 ((j : Int) - 1) ∧ vn = .int .i64 x ∧ Least G o j x) (fun _ vi _ _ => ((intOf vi) + 1).toNat)
      case atStart => exact ⟨G.length, -1, by omega, rfl, rfl, Least.start G o⟩
      case round =>
        obtain ⟨j, x, hj, rfl, rfl, hls⟩ := hrel
        have HLS := Lib.hid hls
        clear hls
        rcases Nat.eq_zero_or_pos j with rfl | hj0
        · by_cases hx : x < 0
          · have HST := Lib.hid (go_stop (.inl (HLS.out.none hx)) HGO.out)
            have HZ : Hid (okP G [] = false ∧ sortedP G = []) := by
              have h1 : okP G [] = false := by unfold okP; rw [HST.out]; exact decide_eq_false (by omega)
              exact Lib.hid ⟨h1, by unfold sortedP; rw [h1]; rfl⟩
            go_wp2_with fail
            go_ret2
            unfold SortedRet
            rw [HZ.out.1, HZ.out.2]
            exact ⟨none, 0, rfl, World.ownsRow_nil _ _ _ _, (fun _ h => by cases h), HL.out.fr⟩
          · obtain ⟨y, rfl, hyn, hyh⟩ := HLS.out.some (by omega)
            have hyl := (mem_nextO.1 hyn).1
            have HGO2 := Lib.hid (go_next hyn hyh HOK.out HGO.out)
            have HOK2 := Lib.hid (HOK.out.snoc hyn)
            have q66 := (HL.out.bools 0 rfl).cell (thOf_len _ _) y hyl
            have f66 := (HL.out.bools 0 rfl).free y
            have hyy : (y : Int) < (G.length : Int) := by omega
            have h7 := HL.out.storedB 0 rfl y true
            rw [thOf_set] at h7
            have HK0 := Lib.hid ((LK.start h7 0).newBk 3 #[.int .i64 (y : Int)])
            have esz : (wr.setCell ⟨db, y, none⟩ (.bool true)).heap.size = wr.heap.size := by simp
            rw [esz] at HK0
            clear esz
            have HLN : Hid ((ints o).length ≤ 100000) := by
              have : (ints o).length ≤ 100000 := by rw [ints_len]; omega
              exact this
            clear h7 hyn hyh
            generalize (thOf G.length o).getD y false = tb at q66
            go_wp2_with (at_builtin; refine wpList_plain rfl fun K hK => ?_; go_loud (refine wp_oapp _ _ rfl HK0.out rfl rfl 1 rfl 2 rfl HLN.out ?_); intro a6 c6 w6 hk6; have HK6 := Lib.hid hk6; refine hK _ _ ?_; clear hK hk6)
            have h8 := HK6.out.1.take 2
            have e5 : ints o ++ [(y : Int)] = ints (o ++ [y]) := by simp [ints]
            have e6 : (ints o).length + 1 = (o ++ [y]).length := by rw [ints_len]; simp
            rw [e5] at h8
            rw [e6] at h8 ⊢
            have HL8 := Lib.hid h8
            clear h8 e5 e6 HK6
            go_roundw
            case rel => exact ⟨o ++ [y], HOK2.out, HGO2.out, ⟨_, _, rfl⟩, HL8.out⟩
            case measure => simp; omega
        · obtain ⟨p, rfl⟩ : ∃ p, j = p + 1 := ⟨j - 1, by omega⟩
          have hpl : p < G.length := by omega
          have hpp : (p : Int) < (G.length : Int) := by omega
          have hip : ((p + 1 : Nat) : Int) - 1 = (p : Int) := by omega
          rw [hip]
          clear hip
          have q8 := (HL.out.bools 0 rfl).cell (thOf_len _ _) p hpl
          rw [thOf_getD hpl] at q8
          have HBL := Lib.hid (HL.out.bools 0 rfl)
          go_wp2_with fail
          go_loop [8, 9] (fun vc vk => ∃ k : Nat, k ≤ G.length ∧ vk = .int .i64 (k : Int) ∧ vc = .bool (canB G o p k)) (fun _ vk => G.length - (intOf vk).toNat)
          case atStart => exact ⟨0, by omega, rfl, by simp [canB]⟩
          case round =>
            obtain ⟨k, hk, rfl, rfl⟩ := hrel
            by_cases hk2 : k < G.length
            · have hkl : (k : Int) < (G.length : Int) := by omega
              have HSU := Lib.hid (canB_succ G o p k)
              cases hcan : canB G o p k with
              | false =>
                have HCAN := Lib.hid hcan
                clear hcan
                go_wp2_with fail
                go_round
                case rel => exact ⟨k + 1, by omega, by go_num, by rw [HSU.out, HCAN.out]; rfl⟩
                case measure => simp [intOf]; omega
              | true =>
                have HCAN := Lib.hid hcan
                clear hcan
                have q9 := HBL.out.cell (thOf_len _ _) k hk2
                rw [thOf_getD hk2] at q9
                cases hc : o.contains k with
                | true =>
                  rw [hc] at q9
                  have HCC := Lib.hid hc
                  clear hc
                  go_wp2_with fail
                  go_round
                  case rel => exact ⟨k + 1, by omega, by go_num, by rw [HSU.out, HCAN.out, HCC.out]; rfl⟩
                  case measure => simp [intOf]; omega
                | false =>
                  rw [hc] at q9
                  have HCC := Lib.hid hc
                  clear hc
                  go_wp2_with fail
                  refine (points_any _ G k (p : Int) wr (HG.out.fr0 HL.out.fr) hk2 (by omega)).mono ?_
                  rintro e w5 ⟨rfl, rfl⟩
                  have es : (G.getD k []).contains (p : Int) = sees G k p := rfl
                  rw [es]
                  clear es
                  cases hse : sees G k p with
                  | true =>
                    have HSE := Lib.hid hse
                    clear hse
                    go_wp2_with fail
                    go_round
                    case rel => exact ⟨k + 1, by omega, by go_num, by rw [HSU.out, HCAN.out, HCC.out, HSE.out]; rfl⟩
                    case measure => simp [intOf]; omega
                  | false =>
                    have HSE := Lib.hid hse
                    clear hse
                    go_wp2_with fail
                    go_round
                    case rel => exact ⟨k + 1, by omega, by go_num, by rw [HSU.out, HCAN.out, HCC.out, HSE.out]; rfl⟩
                    case measure => simp [intOf]; omega
            · obtain rfl : k = G.length := by omega
              cases hcan : canB G o p G.length with
              | true =>
                have HN := Lib.hid (Least.take ((canB_all hpl).1 hcan))
                clear hcan
                go_wp2_with fail
                go_round
                case rel => exact ⟨p, (p : Int), by omega, rfl, rfl, HN.out⟩
                case measure => (simp [intOf]) <;> omega
              | false =>
                have HN := Lib.hid (HLS.out.skip fun h => by rw [(canB_all hpl).2 h] at hcan; cases hcan)
                clear hcan
                go_wp2_with fail
                go_round
                case rel => exact ⟨p, x, by omega, rfl, rfl, HN.out⟩
                case measure => (simp [intOf]) <;> omega
    · have HST := Lib.hid (go_stop (.inr (by omega)) HGO.out)
      have HZ : Hid (okP G [] = true ∧ sortedP G = o) := by
        have h1 : okP G [] = true := by unfold okP; rw [HST.out]; exact decide_eq_true (by omega)
        exact Lib.hid ⟨h1, by unfold sortedP; rw [h1, if_pos rfl]; exact HST.out⟩
      go_wp2_with fail
      go_ret2
      unfold SortedRet
      rw [HZ.out.1, HZ.out.2]
      have h4 := HL.out.row 1 rfl
      have h5 := HL.out.newFrom 1 rfl
      exact ⟨oa, oc, rfl, h4, h5, HL.out.fr⟩
end Go.Proofs.Ytkeiphmhckkniaa
