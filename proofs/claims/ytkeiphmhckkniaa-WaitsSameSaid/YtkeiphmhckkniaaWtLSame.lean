/-
  Walk of WaitsSame: it answers true.
  No condition but sizes.
-/
import Derived.Test.YtkeiphmhckkniaaWtLaw2
import Derived.Test.YtkeiphmhckkniaaWtWorks
import Derived.Test.YtkeiphmhckkniaaWtSees
namespace Go.Proofs.Ytkeiphmhckkniaa
open Go Go.RowKit

/-- What a row becomes, of its first k, turned by t. -/
def samRow (n t : Nat) (xs : List Int) (k : Nat) : List Int := (List.range k).flatMap fun j => xs.getD ((j + t) % xs.length) 0 :: if j % 2 = 0 then [xs.getD ((j + t) % xs.length) 0, -1, (n : Int)] else []
theorem samRow_succ (n t : Nat) (xs : List Int) (k : Nat) : samRow n t xs (k + 1) = samRow n t xs k ++ (xs.getD ((k + t) % xs.length) 0 :: if k % 2 = 0 then [xs.getD ((k + t) % xs.length) 0, -1, (n : Int)] else []) := by simp [samRow, List.range_succ]
theorem samRow_len (n t : Nat) (xs : List Int) (k : Nat) : (samRow n t xs k).length ≤ 4 * k := by
  induction k with
  | zero => simp [samRow]
  | succ k ih =>
    rw [samRow_succ, List.length_append, List.length_cons]
    split <;> simp <;> omega
theorem mem_samRow {n t : Nat} {xs : List Int} {y : Int} (hy : 0 ≤ y ∧ y < n) : y ∈ samRow n t xs xs.length ↔ y ∈ xs := by
  unfold samRow
  rw [List.mem_flatMap]
  constructor
  · rintro ⟨j, hj, hm⟩
    have hl : 0 < xs.length := by have := List.mem_range.1 hj; omega
    have hmod := Nat.mod_lt (j + t) hl
    have hin : xs.getD ((j + t) % xs.length) 0 ∈ xs := by
      rw [List.getD_eq_getElem?_getD, List.getElem?_eq_getElem hmod]; exact List.getElem_mem hmod
    rcases List.mem_cons.1 hm with rfl | hm
    · exact hin
    · split at hm
      · simp only [List.mem_cons, List.not_mem_nil, or_false] at hm
        rcases hm with rfl | rfl | rfl
        · exact hin
        · omega
        · omega
      · cases hm
  · intro hm
    obtain ⟨i, hi, rfl⟩ := List.mem_iff_getElem.1 hm
    refine ⟨(i + (xs.length - t % xs.length)) % xs.length, List.mem_range.2 (Nat.mod_lt _ (by omega)), List.mem_cons.2 (.inl ?_)⟩
    have hl : 0 < xs.length := by omega
    have e : ((i + (xs.length - t % xs.length)) % xs.length + t) % xs.length = i := by
      have h1 := Nat.mod_lt t hl
      have h2 : t = xs.length * (t / xs.length) + t % xs.length := (Nat.div_add_mod t xs.length).symm
      rw [Nat.mod_add_mod]
      have h3 : i + (xs.length - t % xs.length) + t = i + xs.length + xs.length * (t / xs.length) := by omega
      rw [h3, Nat.add_mul_mod_self_left, Nat.add_mod_right, Nat.mod_eq_of_lt hi]
    rw [e, List.getD_eq_getElem?_getD, List.getElem?_eq_getElem hi]; rfl
/-- The first m rows so. -/
def samTo (G : List (List Int)) (t m : Nat) : List (List Int) := ((List.range m).map fun i => samRow G.length t (G.getD i []) (G.getD i []).length) ++ List.replicate (G.length - m) []
theorem samTo_len {G : List (List Int)} {t m : Nat} (h : m ≤ G.length) : (samTo G t m).length = G.length := by unfold samTo; simp; omega
theorem samTo_get {G : List (List Int)} {t m : Nat} (h : m < G.length) : (samTo G t m)[m]? = some [] := by
  unfold samTo
  rw [List.getElem?_append_right (by simp), List.length_map, List.length_range, Nat.sub_self, List.getElem?_replicate, if_pos (by omega)]
theorem samTo_set {G : List (List Int)} {t m : Nat} (h : m < G.length) : (samTo G t m).set m (samRow G.length t (G.getD m []) (G.getD m []).length) = samTo G t (m + 1) := by
  unfold samTo
  obtain ⟨k, hk⟩ : ∃ k, G.length = m + k + 1 := ⟨G.length - m - 1, by omega⟩
  rw [List.set_append_right _ _ (by simp), List.length_map, List.length_range, Nat.sub_self, hk, show m + k + 1 - m = k + 1 by omega, show m + k + 1 - (m + 1) = k by omega, List.replicate_succ, List.set_cons_zero, List.range_succ]
  simp
theorem samTo_is (G : List (List Int)) (t : Nat) : SameS G (samTo G t G.length) := ⟨samTo_len (Nat.le_refl _), fun i j hi hj => by
  have e : (samTo G t G.length).getD i [] = samRow G.length t (G.getD i []) (G.getD i []).length := by
    unfold samTo
    rw [Nat.sub_self, List.replicate_zero, List.append_nil, List.getD_eq_getElem?_getD, List.getElem?_map, List.getElem?_range hi]; rfl
  unfold sees
  rw [e, Bool.eq_iff_iff, List.contains_iff_mem, List.contains_iff_mem, mem_samRow ⟨by omega, by omega⟩]⟩
theorem samTo_rows {G : List (List Int)} {t b : Nat} (hb : ∀ xs ∈ G, xs.length ≤ b) : ∀ xs ∈ samTo G t G.length, xs.length ≤ 4 * b := fun xs hx => by
  unfold samTo at hx
  rw [Nat.sub_self, List.replicate_zero, List.append_nil] at hx
  obtain ⟨i, hi, rfl⟩ := List.mem_map.1 hx
  have h1 := samRow_len G.length t (G.getD i []) (G.getD i []).length
  have h2 : (G.getD i []).length ≤ b := by
    have hi := List.mem_range.1 hi
    rw [List.getD_eq_getElem?_getD, List.getElem?_eq_getElem hi]; exact hb _ (List.getElem_mem hi)
  omega
theorem sam_start {G : List (List Int)} {t m : Nat} (h : m < G.length) (n : Nat) (xs : List Int) : (samTo G t m).set m (samRow n t xs 0) = samTo G t m := by
  have h1 := samTo_get (t := t) h
  obtain ⟨h2, h3⟩ := List.getElem?_eq_some_iff.1 h1
  have e : samRow n t xs 0 = (samTo G t m)[m] := by rw [h3]; rfl
  rw [e, List.set_getElem_self]
theorem ints3 (w : World) (x n : Int) : IntsAt (w.alloc (.cells #[.int .i64 x, .int .i64 (-1), .int .i64 n] 3)) (.slice (some ⟨w.heap.size, 0, none⟩) 3 3) [x, -1, n] :=
  (((Lies.nil (Fr.refl w Nil)).lit #[.int .i64 x, .int .i64 (-1), .int .i64 n] 3 [x, -1, n] rfl rfl (by decide)).row 0 rfl).at
theorem same_cell {w : World} {b k : Nat} {u v : Value} {o : Obj} (h : w.cell? ⟨b, k, none⟩ = some u) : ((w.setCell ⟨b, k, none⟩ v).alloc o).cell? ⟨b, k, none⟩ = some v :=
  (((Fr.refl (w.setCell ⟨b, k, none⟩ v) Nil).alloc o).cell (World.cell?_setCell_same _ _ _ h) (fun h => h))
theorem wp_gappN {w0 W0 W : World} {B : Nat} {l : List Thing} {o : Oper} {a : Act} {K : Act → World → Prop} {Q : Exit → Act → World → Prop} (s x : Operand) (ho : o.op = .call { callee := .builtin .append, args := #[s, x], argTypes := #[27, 27] })
    (h : LK w0 B W0 W l) {b n cap : Nat} {G : List (List Int)} {k c nn : Nat} {ad : Option Addr} {xs ys : List Int} {xv : Value} (hs : a.eval s = .slice ad nn c) (hx : a.eval x = xv) (i : Nat) (hi : l[i]? = some (gT (.slice (some ⟨b, 0, none⟩) n cap) G)) (hk : G[k]? = some xs) (hu : W.cell? ⟨b, k, none⟩ = some (.slice ad nn c))
    (hnn : xs.length = nn) (hy : IntsAt W xv ys) (hl : nn + ys.length ≤ 1000000)
    (hK : ∀ ad' cap' W', LK w0 B W0 W' (l.set i holdT) → W'.cell? ⟨b, k, none⟩ = some (.slice ad nn c) → W'.frozen? ⟨b, k, none⟩ = false → LK w0 B W0 (W'.setCell ⟨b, k, none⟩ (.slice ad' (nn + ys.length) cap')) (l.set i (gT (.slice (some ⟨b, 0, none⟩) n cap) (G.set k (xs ++ ys)))) → K (a.put o.dst (.slice ad' (nn + ys.length) cap')) W') : o.wp Try.prog a W K Q := by
  subst hnn
  exact wp_gappS s x ho h hs hx i hi hk hu hy hl hK
theorem set_size (w : World) (p : Addr) (v : Value) : (w.setCell p v).heap.size = w.heap.size := by simp
theorem ints3s (w : World) (p : Addr) (v : Value) (x n : Int) : IntsAt ((w.setCell p v).alloc (.cells #[.int .i64 x, .int .i64 (-1), .int .i64 n] 3)) (.slice (some ⟨w.heap.size, 0, none⟩) 3 3) [x, -1, n] := by
  have := ints3 (w.setCell p v) x n
  rwa [set_size] at this
theorem partsP_rows2 (G : List (List Int)) (hl : G.length ≤ 1000) : ∀ xs ∈ partsP G, xs.length ≤ 1000000 := fun xs hx => by
  unfold partsP partsTo at hx
  obtain ⟨i, _, rfl⟩ := List.mem_map.1 hx
  have := partOf_len G i
  rw [ints_len]; omega
theorem ringZ_few2 (G : List (List Int)) (i : Int) : (ringZ G i).length ≤ G.length := by
  unfold ringZ
  split
  · rw [ints_len]; exact ringP_len G _
  · simp
theorem reachZ_few2 (G : List (List Int)) (i : Int) : (reachZ G i).length ≤ G.length := by
  unfold reachZ
  split
  · exact reachP_len G _
  · simp
theorem sortedP_few2 (G : List (List Int)) : (sortedP G).length ≤ G.length := by
  unfold sortedP
  split
  · exact (orderP_chain G []).2.len
  · simp
set_option maxRecDepth 100000 in
set_option maxHeartbeats 2000000 in
theorem wsame_any (gv : Value) (G : List (List Int)) (t i : Int) (w : World) (h : GraphW w gv G) (ht : 0 ≤ t ∧ t < 256) :
    Calls Try.prog 8 #[gv, .int .u8 t, .int .i64 i] w fun e w' => e = .returned (.bool true) ∧ Fr w w' Nil := by
  obtain ⟨ir, hir, hr0, hr1, hr2⟩ := info_parts (P := Try.prog) (e := 27) (z := .slice none 0 0) (size := 1) (bytes := 24) (by kernel_rfl)
  obtain ⟨t, rfl⟩ : ∃ n : Nat, t = (n : Int) := ⟨t.toNat, by omega⟩
  have ht2 : (t : Int) < 256 := ht.2
  clear ht
  obtain ⟨ga, gc, rfl⟩ := h.shape
  have HW := Lib.hid h
  clear h
  go_enter Try.func8, Try.ntmps8
  go_wp2_with fail
  refine (few_any _ G 20 w HW.out (by decide)).mono ?_
  rintro e w0 ⟨rfl, rfl⟩
  cases hfew : fewP G 20 with
  | false =>
    clear hfew
    go_wp2_with fail
    refine (works_any w).mono ?_
    rintro e w1 ⟨rfl, hf⟩
    have HF := Lib.hid hf
    clear hf
    go_wp2_with fail
    go_ret
    exact ⟨rfl, HF.out⟩
  | true =>
    have HG := Lib.hid (HW.out.at hfew (by decide))
    have hl := (fewP_true hfew).1
    have HRB := Lib.hid (fewP_true hfew).2
    have Hb2 : Hid (G.length ≤ maxLen) := by
      have : G.length ≤ maxLen := by unfold maxLen; omega
      exact this
    obtain ⟨w1, hrun, hown, hgr⟩ := run_make_full (P := Try.prog) w 0 23 27 ir (.slice none 0 0) 1 Try.underlying23 hir hr0 hr1 .i64 .i64 G.length (by rw [hr2]; omega) Hb2.out (Nat.zero_le _)
    have HL0 := Lib.hid ((Lies.nil (Fr.refl w Nil)).gmade rfl hown ((Fr.refl w Nil).grown hgr (fun k hk => by cases hk)))
    clear hfew hown hgr
    go_wp2_with fail
    generalize w.heap.size = bb at HL0 ⊢
    clear hrun
    go_loopw [8] (fun vi wr => ∃ m : Nat, m ≤ G.length ∧ vi = .int .i64 m ∧ Lies w wr [gT (.slice (some ⟨bb, 0, none⟩) G.length G.length) (samTo G t m)]) (fun vi _ => G.length - (intOf vi).toNat)
    case atStart => exact ⟨0, by omega, rfl, by have := HL0.out; unfold samTo; simpa using this⟩
    case round =>
      obtain ⟨m, hm, rfl, hL⟩ := hrel
      have HL := Lib.hid hL
      clear hL HL0
      by_cases hlt : m < G.length
      · have hml : (m : Int) < (G.length : Int) := by omega
        have hgi := List.getElem?_eq_getElem hlt
        have hgd : G.getD m [] = G[m] := by rw [List.getD_eq_getElem?_getD, hgi]; rfl
        obtain ⟨gb, go, gcap, hv, hc⟩ := HG.out.form (by omega)
        simp only [Value.slice.injEq, true_and] at hv
        obtain ⟨rfl, rfl⟩ := hv
        obtain ⟨u, hu, hxu, hxl⟩ := hc m _ hgi
        have hxb := HRB.out _ (List.mem_of_getElem? hgi)
        have hst := samTo_set (t := t) hlt
        rw [hgd] at hst
        generalize G[m] = xs at *
        obtain ⟨ua, uc, rfl⟩ := hxu.shape
        have HU := Lib.hid hu
        have HXU := Lib.hid hxu
        have HST := Lib.hid hst
        have HS0 := Lib.hid (sam_start (t := t) hlt G.length xs)
        clear hgi hc hu hxu hgd hst
        go_wp2_with fail
        go_loopw [9] (fun vk wq => ∃ k : Nat, k ≤ xs.length ∧ vk = .int .i64 (k : Int) ∧ Lies w wq [gT (.slice (some ⟨bb, 0, none⟩) G.length G.length) ((samTo G t m).set m (samRow G.length t xs k))]) (fun vk _ => xs.length - (intOf vk).toNat)
        case atStart => exact ⟨0, by omega, rfl, by rw [HS0.out]; exact HL.out⟩
        case round =>
          obtain ⟨k, hk, rfl, hL2⟩ := hrel
          have HL2 := Lib.hid hL2
          clear hL2 HL
          have q0 := HL2.out.fr.cell HU.out (fun h => h)
          by_cases hlt3 : k < xs.length
          · have hkl : (k : Int) < (xs.length : Int) := by omega
            obtain ⟨xb, xo, xc2, hv2, hxc⟩ := HXU.out.form (by omega)
            simp only [Value.slice.injEq, true_and] at hv2
            obtain ⟨rfl, rfl⟩ := hv2
            have hcl : (k + t) % xs.length < xs.length := Nat.mod_lt _ (by omega)
            have q1 := HL2.out.fr.cell (hxc _ _ (List.getElem?_eq_getElem hcl)) (fun h => h)
            have ex : xs[(k + t) % xs.length] = xs.getD ((k + t) % xs.length) 0 := by rw [List.getD_eq_getElem?_getD, List.getElem?_eq_getElem hcl]; rfl
            rw [ex] at q1
            have hsu := samRow_succ G.length t xs k
            have hln := samRow_len G.length t xs k
            have e2 : Int.tmod ((k : Int) + (t : Int)) (xs.length : Int) = (((k + t) % xs.length : Nat) : Int) := by
              rw [Int.tmod_eq_emod_of_nonneg (by omega)]; norm_cast
            generalize xs.getD ((k + t) % xs.length) 0 = x at *
            generalize (k + t) % xs.length = c at *
            have hcc : (c : Int) < (xs.length : Int) := by omega
            have hRne : ¬ (xs = []) := fun e => by rw [e] at hlt3; cases hlt3
            have ew0 : IntKind.i64.wrap (t : Int) = (t : Int) := by rw [IntKind.wrap_i64]; omega
            have ew : IntKind.i64.wrap ((k : Int) + (t : Int)) = (k : Int) + (t : Int) := by rw [IntKind.wrap_i64]; omega
            have HSU := Lib.hid hsu
            clear hxc ex hsu
            generalize samRow G.length t xs k = ys at *
            have hB : ((samTo G t m).set m ys)[m]? = some ys := by rw [List.getElem?_set_self (by rw [samTo_len hm]; exact hlt)]
            obtain ⟨ya, yc, q2, -, f2⟩ := HL2.out.gcell 0 rfl m ys hB
            have HB := Lib.hid hB
            have HYL : Hid (ys.length ≤ 100000) := by
              have : ys.length ≤ 100000 := by omega
              exact this
            clear hB
            by_cases hpar : k % 2 = 0
            · have e3 : ((k : Int) % 2) = 0 := by omega
              have e4 : Int.tmod (k : Int) 2 = 0 := by rw [Int.tmod_eq_emod_of_nonneg (by omega)]; omega
              have HNX : Hid (samRow G.length t xs (k + 1) = (ys ++ [x]) ++ [x, -1, (G.length : Int)]) := by
                have : samRow G.length t xs (k + 1) = (ys ++ [x]) ++ [x, -1, (G.length : Int)] := by rw [HSU.out, if_pos hpar]; simp
                exact this
              have HB2 : Hid ((((samTo G t m).set m ys).set m (ys ++ [x]))[m]? = some (ys ++ [x])) := by
                have : (((samTo G t m).set m ys).set m (ys ++ [x]))[m]? = some (ys ++ [x]) := by rw [List.getElem?_set_self (by rw [List.length_set, samTo_len hm]; exact hlt)]
                exact this
              have HN2 : Hid ((ys ++ [x]).length = ys.length + 1) := by
                have : (ys ++ [x]).length = ys.length + 1 := by simp
                exact this
              have HYL2 : Hid (ys.length + 1 + [x, -1, (G.length : Int)].length ≤ 1000000) := by
                have : ys.length + 1 + [x, -1, (G.length : Int)].length ≤ 1000000 := by simp; omega
                exact this
              go_wp2_with fail
              refine wp_region_sink 16 (fun w' : World => Fr wr w' Nil ∧ w'.cell? ⟨gb, go + m, none⟩ = some (.slice (some ⟨xb, xo, none⟩) xs.length uc) ∧ w'.cell? ⟨xb, xo + c, none⟩ = some (.int .i64 x)) (by kernel_rfl) ?_
              have hS : (fun w' : World => Fr wr w' Nil ∧ w'.cell? ⟨gb, go + m, none⟩ = some (.slice (some ⟨xb, xo, none⟩) xs.length uc) ∧ w'.cell? ⟨xb, xo + c, none⟩ = some (.int .i64 x)) wr.drew := ⟨(Fr.refl wr Nil).drew, q0, q1⟩
              clear q0 q1
              refine wpAnyS_take (i := 0) (v := ?_) rfl (by kernel_rfl) (fun _ _ _ h => h) (by rfl) hS ?_ ?_
              rotate_left
              · intro w' hS'
                (try dsimp only at hS')
                go_simp <;> with_reducible rfl
              try simp only [Act.put, List.setIfInBounds_toArray, List.set_cons_zero, List.set_cons_succ]
              refine wpAnyS_take (i := 1) (v := ?_) rfl (by kernel_rfl) (fun _ _ _ h => h) (by rfl) hS ?_ ?_
              rotate_left
              · intro w' hS'
                (try dsimp only at hS')
                go_simp <;> with_reducible rfl
              try simp only [Act.put, List.setIfInBounds_toArray, List.set_cons_zero, List.set_cons_succ]
              refine wpAnyS_take (i := 2) (v := ?_) rfl (by kernel_rfl) (fun _ _ _ h => h) (by rfl) hS ?_ ?_
              rotate_left
              · intro w' hS'
                (try dsimp only at hS')
                go_simp <;> with_reducible rfl
              try simp only [Act.put, List.setIfInBounds_toArray, List.set_cons_zero, List.set_cons_succ]
              refine wpAnyS_take (i := 3) (v := ?_) rfl (by kernel_rfl) (fun _ _ _ h => h) (by rfl) hS ?_ ?_
              rotate_left
              · intro w' hS'
                (try dsimp only at hS')
                go_simp <;> with_reducible rfl
              try simp only [Act.put, List.setIfInBounds_toArray, List.set_cons_zero, List.set_cons_succ]
              refine wpAnyS_take (i := 4) (v := ?_) rfl (by kernel_rfl) (fun _ _ _ h => h) (by rfl) hS ?_ ?_
              rotate_left
              · intro w' hS'
                (try dsimp only at hS')
                go_simp <;> with_reducible rfl
              try simp only [Act.put, List.setIfInBounds_toArray, List.set_cons_zero, List.set_cons_succ]
              refine wpAnyS_take (i := 5) (v := ?_) rfl (by kernel_rfl) (fun _ _ _ h => h) (by rfl) hS ?_ ?_
              rotate_left
              · intro w' hS'
                (try dsimp only at hS')
                go_simp <;> with_reducible rfl
              try simp only [Act.put, List.setIfInBounds_toArray, List.set_cons_zero, List.set_cons_succ]
              refine wpAnyS_take (i := 6) (v := ?_) rfl (by kernel_rfl) (fun _ _ _ h => h) (by rfl) hS ?_ ?_
              rotate_left
              · intro w' hS'
                (try dsimp only at hS')
                go_simp <;> with_reducible rfl
              try simp only [Act.put, List.setIfInBounds_toArray, List.set_cons_zero, List.set_cons_succ]
              refine wpAnyS_take (i := 7) (v := ?_) rfl (by kernel_rfl) (fun _ _ _ h => h) (by rfl) hS ?_ ?_
              rotate_left
              · intro w' hS'
                (try dsimp only at hS')
                go_simp <;> with_reducible rfl
              try simp only [Act.put, List.setIfInBounds_toArray, List.set_cons_zero, List.set_cons_succ]
              refine wpAnyS_take (i := 8) (v := ?_) rfl (by kernel_rfl) (fun _ _ _ h => h) (by rfl) hS ?_ ?_
              rotate_left
              · intro w' hS'
                (try dsimp only at hS')
                go_simp <;> with_reducible rfl
              try simp only [Act.put, List.setIfInBounds_toArray, List.set_cons_zero, List.set_cons_succ]
              refine wpAnyS_take (i := 9) (v := ?_) rfl (by kernel_rfl) (fun _ _ _ h => h) (by rfl) hS ?_ ?_
              rotate_left
              · intro w' hS'
                (try dsimp only at hS')
                go_simp <;> with_reducible rfl
              try simp only [Act.put, List.setIfInBounds_toArray, List.set_cons_zero, List.set_cons_succ]
              refine wpAnyS_take (i := 10) (v := ?_) rfl (by kernel_rfl) (fun _ _ _ h => h) (by rfl) hS ?_ ?_
              rotate_left
              · intro w' hS'
                (try dsimp only at hS')
                go_simp <;> with_reducible rfl
              try simp only [Act.put, List.setIfInBounds_toArray, List.set_cons_zero, List.set_cons_succ]
              refine wpAnyS_take (i := 11) (v := ?_) rfl (by kernel_rfl) (fun _ _ _ h => h) (by rfl) hS ?_ ?_
              rotate_left
              · intro w' hS'
                (try dsimp only at hS')
                go_simp <;> with_reducible rfl
              try simp only [Act.put, List.setIfInBounds_toArray, List.set_cons_zero, List.set_cons_succ]
              refine wpAnyS_take (i := 12) (v := ?_) rfl (by kernel_rfl) (fun _ _ _ h => h) (by rfl) hS ?_ ?_
              rotate_left
              · intro w' hS'
                (try dsimp only at hS')
                go_simp <;> with_reducible rfl
              try simp only [Act.put, List.setIfInBounds_toArray, List.set_cons_zero, List.set_cons_succ]
              refine wpAnyS_take (i := 13) (v := ?_) rfl (by kernel_rfl) (fun _ _ _ h => h) (by rfl) hS ?_ ?_
              rotate_left
              · intro w' hS'
                (try dsimp only at hS')
                go_simp <;> with_reducible rfl
              try simp only [Act.put, List.setIfInBounds_toArray, List.set_cons_zero, List.set_cons_succ]
              refine wpAnyS_take (i := 14) (v := ?_) rfl (by kernel_rfl) (fun _ _ _ h => h) (by rfl) hS ?_ ?_
              rotate_left
              · intro w' hS'
                (try dsimp only at hS')
                go_simp <;> with_reducible rfl
              try simp only [Act.put, List.setIfInBounds_toArray, List.set_cons_zero, List.set_cons_succ]
              refine wpAnyS_take (i := 15) (v := ?_) rfl (by kernel_rfl) (fun _ _ _ h => h) (by rfl) hS ?_ ?_
              rotate_left
              · intro w' hS'
                (try dsimp only at hS')
                go_simp <;> with_reducible rfl
              try simp only [Act.put, List.setIfInBounds_toArray, List.set_cons_zero, List.set_cons_succ]
              refine wpAnyS_last (i := 16) rfl (by kernel_rfl) (by decide) (by kernel_rfl) (by rfl) fun K hK => ?_
              go_simp
              refine hK.out _ _ ?_
              clear hK K
              have HL5 := Lib.hid (HL2.out.fr0 hS.1)
              have q3 := hS.1.cell q2 (fun h => h)
              clear hS q2 f2
              generalize wr.drew = w5 at *
              have HK0 := Lib.hid ((LK.start HL5.out 0).newBk 3 #[.int .i64 x])
              have HQ3 := Lib.hid (((Fr.refl w5 Nil).alloc (.cells #[.int .i64 x] 3)).cell q3 (fun h => h))
              go_wp2_with (first
                | (at_builtin; refine wpList_plain rfl fun K hK => ?_; refine wp_gapp _ _ rfl HK0.out rfl rfl 0 rfl HB.out HQ3.out 1 rfl HYL.out ?_; intro a6 c6 w6 hk6 q6 f6 hk7; have HK7 := Lib.hid (hk7.take 1); have HQ6 := Lib.hid q6; refine hK _ _ ?_; clear hK hk6 hk7)
                | (at_builtin; refine wpList_plain rfl fun K hK => ?_; refine wp_gappN _ _ rfl (HK7.out.fr0 ((Fr.refl _ Nil).alloc _)) rfl rfl 0 rfl HB2.out (same_cell HQ6.out) HN2.out (ints3s _ _ _ _ _) HYL2.out ?_; intro a8 c8 w8 hk8 q8 f8 hk9; have HK9 := Lib.hid (hk9.take 1); refine hK _ _ ?_; clear hK hk8 hk9))
              have HL8 := Lib.hid HK9.out.1
              clear HK9
              go_roundw
              case rel => exact ⟨k + 1, by omega, by go_num, by have h9 := HL8.out; simp only [List.set_set] at h9; rw [HNX.out]; exact h9⟩
              case measure => simp [intOf]; omega
            · have e3 : ((k : Int) % 2) = 1 := by omega
              have e4 : Int.tmod (k : Int) 2 = 1 := by rw [Int.tmod_eq_emod_of_nonneg (by omega)]; omega
              have HNX : Hid (samRow G.length t xs (k + 1) = ys ++ [x]) := by
                have : samRow G.length t xs (k + 1) = ys ++ [x] := by rw [HSU.out, if_neg hpar]
                exact this
              go_wp2_with fail
              refine wp_region_sink 16 (fun w' : World => Fr wr w' Nil ∧ w'.cell? ⟨gb, go + m, none⟩ = some (.slice (some ⟨xb, xo, none⟩) xs.length uc) ∧ w'.cell? ⟨xb, xo + c, none⟩ = some (.int .i64 x)) (by kernel_rfl) ?_
              have hS : (fun w' : World => Fr wr w' Nil ∧ w'.cell? ⟨gb, go + m, none⟩ = some (.slice (some ⟨xb, xo, none⟩) xs.length uc) ∧ w'.cell? ⟨xb, xo + c, none⟩ = some (.int .i64 x)) wr.drew := ⟨(Fr.refl wr Nil).drew, q0, q1⟩
              clear q0 q1
              refine wpAnyS_take (i := 0) (v := ?_) rfl (by kernel_rfl) (fun _ _ _ h => h) (by rfl) hS ?_ ?_
              rotate_left
              · intro w' hS'
                (try dsimp only at hS')
                go_simp <;> with_reducible rfl
              try simp only [Act.put, List.setIfInBounds_toArray, List.set_cons_zero, List.set_cons_succ]
              refine wpAnyS_take (i := 1) (v := ?_) rfl (by kernel_rfl) (fun _ _ _ h => h) (by rfl) hS ?_ ?_
              rotate_left
              · intro w' hS'
                (try dsimp only at hS')
                go_simp <;> with_reducible rfl
              try simp only [Act.put, List.setIfInBounds_toArray, List.set_cons_zero, List.set_cons_succ]
              refine wpAnyS_take (i := 2) (v := ?_) rfl (by kernel_rfl) (fun _ _ _ h => h) (by rfl) hS ?_ ?_
              rotate_left
              · intro w' hS'
                (try dsimp only at hS')
                go_simp <;> with_reducible rfl
              try simp only [Act.put, List.setIfInBounds_toArray, List.set_cons_zero, List.set_cons_succ]
              refine wpAnyS_take (i := 3) (v := ?_) rfl (by kernel_rfl) (fun _ _ _ h => h) (by rfl) hS ?_ ?_
              rotate_left
              · intro w' hS'
                (try dsimp only at hS')
                go_simp <;> with_reducible rfl
              try simp only [Act.put, List.setIfInBounds_toArray, List.set_cons_zero, List.set_cons_succ]
              refine wpAnyS_take (i := 4) (v := ?_) rfl (by kernel_rfl) (fun _ _ _ h => h) (by rfl) hS ?_ ?_
              rotate_left
              · intro w' hS'
                (try dsimp only at hS')
                go_simp <;> with_reducible rfl
              try simp only [Act.put, List.setIfInBounds_toArray, List.set_cons_zero, List.set_cons_succ]
              refine wpAnyS_take (i := 5) (v := ?_) rfl (by kernel_rfl) (fun _ _ _ h => h) (by rfl) hS ?_ ?_
              rotate_left
              · intro w' hS'
                (try dsimp only at hS')
                go_simp <;> with_reducible rfl
              try simp only [Act.put, List.setIfInBounds_toArray, List.set_cons_zero, List.set_cons_succ]
              refine wpAnyS_take (i := 6) (v := ?_) rfl (by kernel_rfl) (fun _ _ _ h => h) (by rfl) hS ?_ ?_
              rotate_left
              · intro w' hS'
                (try dsimp only at hS')
                go_simp <;> with_reducible rfl
              try simp only [Act.put, List.setIfInBounds_toArray, List.set_cons_zero, List.set_cons_succ]
              refine wpAnyS_take (i := 7) (v := ?_) rfl (by kernel_rfl) (fun _ _ _ h => h) (by rfl) hS ?_ ?_
              rotate_left
              · intro w' hS'
                (try dsimp only at hS')
                go_simp <;> with_reducible rfl
              try simp only [Act.put, List.setIfInBounds_toArray, List.set_cons_zero, List.set_cons_succ]
              refine wpAnyS_take (i := 8) (v := ?_) rfl (by kernel_rfl) (fun _ _ _ h => h) (by rfl) hS ?_ ?_
              rotate_left
              · intro w' hS'
                (try dsimp only at hS')
                go_simp <;> with_reducible rfl
              try simp only [Act.put, List.setIfInBounds_toArray, List.set_cons_zero, List.set_cons_succ]
              refine wpAnyS_take (i := 9) (v := ?_) rfl (by kernel_rfl) (fun _ _ _ h => h) (by rfl) hS ?_ ?_
              rotate_left
              · intro w' hS'
                (try dsimp only at hS')
                go_simp <;> with_reducible rfl
              try simp only [Act.put, List.setIfInBounds_toArray, List.set_cons_zero, List.set_cons_succ]
              refine wpAnyS_take (i := 10) (v := ?_) rfl (by kernel_rfl) (fun _ _ _ h => h) (by rfl) hS ?_ ?_
              rotate_left
              · intro w' hS'
                (try dsimp only at hS')
                go_simp <;> with_reducible rfl
              try simp only [Act.put, List.setIfInBounds_toArray, List.set_cons_zero, List.set_cons_succ]
              refine wpAnyS_take (i := 11) (v := ?_) rfl (by kernel_rfl) (fun _ _ _ h => h) (by rfl) hS ?_ ?_
              rotate_left
              · intro w' hS'
                (try dsimp only at hS')
                go_simp <;> with_reducible rfl
              try simp only [Act.put, List.setIfInBounds_toArray, List.set_cons_zero, List.set_cons_succ]
              refine wpAnyS_take (i := 12) (v := ?_) rfl (by kernel_rfl) (fun _ _ _ h => h) (by rfl) hS ?_ ?_
              rotate_left
              · intro w' hS'
                (try dsimp only at hS')
                go_simp <;> with_reducible rfl
              try simp only [Act.put, List.setIfInBounds_toArray, List.set_cons_zero, List.set_cons_succ]
              refine wpAnyS_take (i := 13) (v := ?_) rfl (by kernel_rfl) (fun _ _ _ h => h) (by rfl) hS ?_ ?_
              rotate_left
              · intro w' hS'
                (try dsimp only at hS')
                go_simp <;> with_reducible rfl
              try simp only [Act.put, List.setIfInBounds_toArray, List.set_cons_zero, List.set_cons_succ]
              refine wpAnyS_take (i := 14) (v := ?_) rfl (by kernel_rfl) (fun _ _ _ h => h) (by rfl) hS ?_ ?_
              rotate_left
              · intro w' hS'
                (try dsimp only at hS')
                go_simp <;> with_reducible rfl
              try simp only [Act.put, List.setIfInBounds_toArray, List.set_cons_zero, List.set_cons_succ]
              refine wpAnyS_take (i := 15) (v := ?_) rfl (by kernel_rfl) (fun _ _ _ h => h) (by rfl) hS ?_ ?_
              rotate_left
              · intro w' hS'
                (try dsimp only at hS')
                go_simp <;> with_reducible rfl
              try simp only [Act.put, List.setIfInBounds_toArray, List.set_cons_zero, List.set_cons_succ]
              refine wpAnyS_last (i := 16) rfl (by kernel_rfl) (by decide) (by kernel_rfl) (by rfl) fun K hK => ?_
              go_simp
              refine hK.out _ _ ?_
              clear hK K
              have HL5 := Lib.hid (HL2.out.fr0 hS.1)
              have q3 := hS.1.cell q2 (fun h => h)
              clear hS q2 f2
              generalize wr.drew = w5 at *
              have HK0 := Lib.hid ((LK.start HL5.out 0).newBk 3 #[.int .i64 x])
              have HQ3 := Lib.hid (((Fr.refl w5 Nil).alloc (.cells #[.int .i64 x] 3)).cell q3 (fun h => h))
              go_wp2_with (at_builtin; refine wpList_plain rfl fun K hK => ?_; refine wp_gapp _ _ rfl HK0.out rfl rfl 0 rfl HB.out HQ3.out 1 rfl HYL.out ?_; intro a6 c6 w6 hk6 q6 f6 hk7; have HK7 := Lib.hid (hk7.take 1); have HQ6 := Lib.hid q6; refine hK _ _ ?_; clear hK hk6 hk7)
              have HL8 := Lib.hid HK7.out.1
              clear HK7
              go_roundw
              case rel => exact ⟨k + 1, by omega, by go_num, by have h9 := HL8.out; simp only [List.set_set] at h9; rw [HNX.out]; exact h9⟩
              case measure => simp [intOf]; omega
          · obtain rfl : k = xs.length := by omega
            rw [HST.out] at HL2
            go_wp2_with fail
            go_roundw
            case rel => exact ⟨m + 1, by omega, by go_num, HL2.out⟩
            case measure => simp [intOf]; omega
      · obtain rfl : m = G.length := by omega
        obtain ⟨w0, hw0⟩ : ∃ w0 : World, w0 = wr := ⟨_, rfl⟩
        subst hw0
        have HT := samTo_is G t
        have hgh : GraphAt w0 (.slice (some ⟨bb, 0, none⟩) G.length G.length) (samTo G t G.length) := HL.out.graph 0 rfl fun xs hx => by
          have := samTo_rows HRB.out xs hx
          omega
        have HGh0 := Lib.hid hgh
        have HGg0 := Lib.hid (HG.out.fr0 HL.out.fr)
        have HFW := Lib.hid HL.out.fr
        have HF0 := Lib.hid (Fr.refl w0 Nil)
        generalize samTo G t G.length = H at *
        have hle : H.length ≤ 1000 := by rw [HT.len]; omega
        have HLE := Lib.hid hle
        have HSE : Hid (sortedP H = sortedP G) := by
          have : sortedP H = sortedP G := by unfold sortedP; rw [HT.ok, HT.order]
          exact this
        have HOE := Lib.hid HT.ok
        have HRE : Hid (ringZ H i = ringZ G i) := by
          have : ringZ H i = ringZ G i := by
            unfold ringZ
            rw [HT.len]
            split
            · rw [HT.ring (by omega)]
            · rfl
          exact this
        have HCE : Hid (reachZ H i = reachZ G i) := by
          have : reachZ H i = reachZ G i := by unfold reachZ; rw [HT.len, HT.reach]
          exact this
        have HPE := Lib.hid (SameS.parts HT.way HT.len)
        have HPB := Lib.hid (partsP_rows2 G (by omega))
        have hb1 := ringZ_few2 G i
        have hb2 := reachZ_few2 G i
        have hb3 := sortedP_few2 G
        have hb4 := partsTo_len G G.length
        clear HT hle hgh HL HRB
        go_wp2_with fail
        refine (sorted_any _ G w0 HGg0.out (by omega)).mono ?_
        rintro e w1 ⟨pa, pc, rfl, ho, -, hf⟩
        have hi := ho.at
        have HF1 := Lib.hid (HF0.out.trans0 hf)
        have HGg1 := Lib.hid (HGg0.out.fr0 hf)
        have HGh1 := Lib.hid (HGh0.out.fr0 hf)
        clear HF0 HGg0 HGh0
        have HSp1 := Lib.hid (hi)
        clear ho hi hf
        go_wp2_with fail
        refine (sorted_any _ H w1 HGh1.out HLE.out).mono ?_
        rintro e w2 ⟨qa, qc, rfl, ho, -, hf⟩
        rw [HSE.out] at ho
        rw [HSE.out, HOE.out]
        have hi := ho.at
        have HF2 := Lib.hid (HF1.out.trans0 hf)
        have HGg2 := Lib.hid (HGg1.out.fr0 hf)
        have HGh2 := Lib.hid (HGh1.out.fr0 hf)
        have HSp2 := Lib.hid (HSp1.out.fr hf (fun _ _ h => h))
        clear HF1 HGg1 HGh1 HSp1
        have HSq2 := Lib.hid (hi)
        clear ho hi hf
        go_wp2_with fail
        refine (ring_any _ G i w2 HGg2.out (by omega)).mono ?_
        rintro e w3 ⟨ra, rc, rfl, ho, -, hf⟩
        have hi := ho.at
        have HF3 := Lib.hid (HF2.out.trans0 hf)
        have HGg3 := Lib.hid (HGg2.out.fr0 hf)
        have HGh3 := Lib.hid (HGh2.out.fr0 hf)
        have HSp3 := Lib.hid (HSp2.out.fr hf (fun _ _ h => h))
        have HSq3 := Lib.hid (HSq2.out.fr hf (fun _ _ h => h))
        clear HF2 HGg2 HGh2 HSp2 HSq2
        have HIr3 := Lib.hid (hi)
        clear ho hi hf
        go_wp2_with fail
        refine (ring_any _ H i w3 HGh3.out HLE.out).mono ?_
        rintro e w4 ⟨sa, sc, rfl, ho, -, hf⟩
        rw [HRE.out] at ho ⊢
        have hi := ho.at
        have HF4 := Lib.hid (HF3.out.trans0 hf)
        have HGg4 := Lib.hid (HGg3.out.fr0 hf)
        have HGh4 := Lib.hid (HGh3.out.fr0 hf)
        have HSp4 := Lib.hid (HSp3.out.fr hf (fun _ _ h => h))
        have HSq4 := Lib.hid (HSq3.out.fr hf (fun _ _ h => h))
        have HIr4 := Lib.hid (HIr3.out.fr hf (fun _ _ h => h))
        clear HF3 HGg3 HGh3 HSp3 HSq3 HIr3
        have HIs4 := Lib.hid (hi)
        clear ho hi hf
        go_wp2_with fail
        refine (sameT HIr4.out HIs4.out (by omega)).mono ?_
        rintro e w5 ⟨rfl, hf⟩
        have HF5 := Lib.hid (HF4.out.trans0 hf)
        have HGg5 := Lib.hid (HGg4.out.fr0 hf)
        have HGh5 := Lib.hid (HGh4.out.fr0 hf)
        have HSp5 := Lib.hid (HSp4.out.fr hf (fun _ _ h => h))
        have HSq5 := Lib.hid (HSq4.out.fr hf (fun _ _ h => h))
        have HIr5 := Lib.hid (HIr4.out.fr hf (fun _ _ h => h))
        have HIs5 := Lib.hid (HIs4.out.fr hf (fun _ _ h => h))
        clear HF4 HGg4 HGh4 HSp4 HSq4 HIr4 HIs4
        clear hf
        clear HIr5
        clear HIs5
        go_wp2_with fail
        refine (reach_any _ G i w5 HGg5.out (by omega)).mono ?_
        rintro e w6 ⟨ra, rc, rfl, ho, -, hf⟩
        have hi := ho.at
        have HF6 := Lib.hid (HF5.out.trans0 hf)
        have HGg6 := Lib.hid (HGg5.out.fr0 hf)
        have HGh6 := Lib.hid (HGh5.out.fr0 hf)
        have HSp6 := Lib.hid (HSp5.out.fr hf (fun _ _ h => h))
        have HSq6 := Lib.hid (HSq5.out.fr hf (fun _ _ h => h))
        clear HF5 HGg5 HGh5 HSp5 HSq5
        have HIr6 := Lib.hid (hi)
        clear ho hi hf
        go_wp2_with fail
        refine (reach_any _ H i w6 HGh6.out HLE.out).mono ?_
        rintro e w7 ⟨sa, sc, rfl, ho, -, hf⟩
        rw [HCE.out] at ho ⊢
        have hi := ho.at
        have HF7 := Lib.hid (HF6.out.trans0 hf)
        have HGg7 := Lib.hid (HGg6.out.fr0 hf)
        have HGh7 := Lib.hid (HGh6.out.fr0 hf)
        have HSp7 := Lib.hid (HSp6.out.fr hf (fun _ _ h => h))
        have HSq7 := Lib.hid (HSq6.out.fr hf (fun _ _ h => h))
        have HIr7 := Lib.hid (HIr6.out.fr hf (fun _ _ h => h))
        clear HF6 HGg6 HGh6 HSp6 HSq6 HIr6
        have HIs7 := Lib.hid (hi)
        clear ho hi hf
        go_wp2_with fail
        refine (sameT HIr7.out HIs7.out (by omega)).mono ?_
        rintro e w8 ⟨rfl, hf⟩
        have HF8 := Lib.hid (HF7.out.trans0 hf)
        have HGg8 := Lib.hid (HGg7.out.fr0 hf)
        have HGh8 := Lib.hid (HGh7.out.fr0 hf)
        have HSp8 := Lib.hid (HSp7.out.fr hf (fun _ _ h => h))
        have HSq8 := Lib.hid (HSq7.out.fr hf (fun _ _ h => h))
        have HIr8 := Lib.hid (HIr7.out.fr hf (fun _ _ h => h))
        have HIs8 := Lib.hid (HIs7.out.fr hf (fun _ _ h => h))
        clear HF7 HGg7 HGh7 HSp7 HSq7 HIr7 HIs7
        clear hf
        clear HIr8
        clear HIs8
        go_wp2_with fail
        refine (parts_any _ G w8 HGg8.out (by omega)).mono ?_
        rintro e w9 ⟨uv, rfl, hL⟩
        have hg := hL.graph 0 rfl HPB.out
        have HF9 := Lib.hid (HF8.out.trans0 hL.fr)
        have HGg9 := Lib.hid (HGg8.out.fr0 hL.fr)
        have HGh9 := Lib.hid (HGh8.out.fr0 hL.fr)
        have HSp9 := Lib.hid (HSp8.out.fr hL.fr (fun _ _ h => h))
        have HSq9 := Lib.hid (HSq8.out.fr hL.fr (fun _ _ h => h))
        clear HF8 HGg8 HGh8 HSp8 HSq8
        have HGu9 := Lib.hid (hg)
        clear hL hg
        go_wp2_with fail
        refine (parts_any _ H w9 HGh9.out HLE.out).mono ?_
        rintro e w10 ⟨vv, rfl, hL⟩
        rw [HPE.out] at hL
        have hg := hL.graph 0 rfl HPB.out
        have HF10 := Lib.hid (HF9.out.trans0 hL.fr)
        have HGg10 := Lib.hid (HGg9.out.fr0 hL.fr)
        have HGh10 := Lib.hid (HGh9.out.fr0 hL.fr)
        have HSp10 := Lib.hid (HSp9.out.fr hL.fr (fun _ _ h => h))
        have HSq10 := Lib.hid (HSq9.out.fr hL.fr (fun _ _ h => h))
        have HGu10 := Lib.hid (HGu9.out.fr0 hL.fr)
        clear HF9 HGg9 HGh9 HSp9 HSq9 HGu9
        have HGv10 := Lib.hid (hg)
        clear hL hg
        go_wp2_with fail
        refine (sameRows_any _ _ (partsP G) (partsP G) w10 HGu10.out HGv10.out (by unfold partsP; omega) (by unfold partsP; omega)).mono ?_
        rintro e w11 ⟨rfl, hf⟩
        rw [decide_eq_true rfl]
        have HF11 := Lib.hid (HF10.out.trans0 hf)
        have HGg11 := Lib.hid (HGg10.out.fr0 hf)
        have HGh11 := Lib.hid (HGh10.out.fr0 hf)
        have HSp11 := Lib.hid (HSp10.out.fr hf (fun _ _ h => h))
        have HSq11 := Lib.hid (HSq10.out.fr hf (fun _ _ h => h))
        have HGu11 := Lib.hid (HGu10.out.fr0 hf)
        have HGv11 := Lib.hid (HGv10.out.fr0 hf)
        clear HF10 HGg10 HGh10 HSp10 HSq10 HGu10 HGv10
        clear hf
        clear HGu11
        clear HGv11
        have e0 : okP G [] = okP G [] := rfl
        go_wp2_with fail
        refine (sameT HSp11.out HSq11.out (by rw [ints_len]; omega)).mono ?_
        rintro e w12 ⟨rfl, hf⟩
        have HF12 := Lib.hid (HF11.out.trans0 hf)
        have HGg12 := Lib.hid (HGg11.out.fr0 hf)
        have HGh12 := Lib.hid (HGh11.out.fr0 hf)
        have HSp12 := Lib.hid (HSp11.out.fr hf (fun _ _ h => h))
        have HSq12 := Lib.hid (HSq11.out.fr hf (fun _ _ h => h))
        clear HF11 HGg11 HGh11 HSp11 HSq11
        clear hf
        clear HSp12
        clear HSq12
        go_wp2_with fail
        refine (works_any w12).mono ?_
        rintro e w13 ⟨rfl, hf⟩
        have HF13 := Lib.hid (HF12.out.trans0 hf)
        have HGg13 := Lib.hid (HGg12.out.fr0 hf)
        have HGh13 := Lib.hid (HGh12.out.fr0 hf)
        clear HF12 HGg12 HGh12
        clear hf
        go_wp2_with fail
        go_ret
        exact ⟨rfl, HFW.out.trans0 HF13.out⟩
end Go.Proofs.Ytkeiphmhckkniaa
