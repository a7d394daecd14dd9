/-
  Walks of what the statements of layer 12 share: sameRows, own.
  No condition but sizes.
-/
import Derived.Test.YtkeiphmhckkniaaWtLaw
import Derived.Test.YtkeiphmhckkniaaWtSnoc
namespace Go.Proofs.Ytkeiphmhckkniaa
open Go Go.RowKit

/-- A row is appended to a row that is there. -/
theorem wp_gappS {w0 W0 W : World} {B : Nat} {l : List Thing} {o : Oper} {a : Act} {K : Act → World → Prop} {Q : Exit → Act → World → Prop} (s x : Operand) (ho : o.op = .call { callee := .builtin .append, args := #[s, x], argTypes := #[27, 27] })
    (h : LK w0 B W0 W l) {b n cap : Nat} {G : List (List Int)} {k c : Nat} {ad : Option Addr} {xs ys : List Int} {xv : Value} (hs : a.eval s = .slice ad xs.length c) (hx : a.eval x = xv) (i : Nat) (hi : l[i]? = some (gT (.slice (some ⟨b, 0, none⟩) n cap) G)) (hk : G[k]? = some xs) (hu : W.cell? ⟨b, k, none⟩ = some (.slice ad xs.length c))
    (hy : IntsAt W xv ys) (hl : xs.length + ys.length ≤ 1000000)
    (hK : ∀ ad' cap' W', LK w0 B W0 W' (l.set i holdT) → W'.cell? ⟨b, k, none⟩ = some (.slice ad xs.length c) → W'.frozen? ⟨b, k, none⟩ = false → LK w0 B W0 (W'.setCell ⟨b, k, none⟩ (.slice ad' (xs.length + ys.length) cap')) (l.set i (gT (.slice (some ⟨b, 0, none⟩) n cap) (G.set k (xs ++ ys)))) → K (a.put o.dst (.slice ad' (xs.length + ys.length) cap')) W') : o.wp Try.prog a W K Q := by
  obtain ⟨a2, c2, h2, h3, _⟩ := h.1.gcell i hi k xs hk
  rw [hu] at h2
  simp only [Option.some.injEq, Value.slice.injEq, true_and] at h2
  obtain ⟨rfl, rfl⟩ := h2
  refine wp_app W s x _ ho Try.sltInt _ hs h3 _ hx (SlAt.of_ints hy) (fun u hu => by obtain ⟨z, _, rfl⟩ := List.mem_map.1 hu; rfl) (by omega) fun g cap' W' h4 h5 h6 => ?_
  have e : xs.length + ys.length = (xs ++ ys).length := by simp
  have hg := h.ggrow i hi k hk hu (u' := .slice g (xs.length + ys.length) cap') (xs' := xs ++ ys) (by unfold OwnInts; rw [List.map_append, ← e]; exact h4) h5 (h6.imp id fun e k hk => by rw [e] at hk; cases hk; exact Nat.le_refl _)
  exact hK g cap' W' hg.1 hg.2.1 hg.2.2.1 hg.2.2.2
def SameToR (xs ys : List (List Int)) (k : Nat) : Prop := xs.take k = ys.take k
set_option maxRecDepth 100000 in
set_option maxHeartbeats 1000000 in
theorem sameRows_any (a b : Value) (A B : List (List Int)) (w : World) (ha : GraphAt w a A) (hb : GraphAt w b B) (hl : A.length ≤ 1000000) (hl2 : B.length ≤ 1000000) :
    Calls Try.prog 20 #[a, b] w fun e w' => e = .returned (.bool (decide (A = B))) ∧ Fr w w' Nil := by
  generalize hres : decide (A = B) = res
  have HR := Lib.hid hres
  have ha2 := ha
  have hb2 := hb
  obtain ⟨aa, ac, rfl⟩ := ha.shape
  obtain ⟨ba, bc, rfl⟩ := hb.shape
  have HA := Lib.hid ha2
  have HB := Lib.hid hb2
  clear ha hb ha2 hb2 hres
  by_cases hlen : A.length = B.length
  · have HLN := Lib.hid hlen
    rw [← hlen] at HB ⊢
    clear hlen
    go_enter Try.func20, Try.ntmps20
    go_wp2_with fail
    go_loopw [5] (fun vi wr => ∃ k : Nat, k ≤ A.length ∧ vi = .int .i64 (k : Int) ∧ SameToR A B k ∧ Fr w wr Nil) (fun vi _ => A.length - (intOf vi).toNat)
    case atStart => exact ⟨0, by omega, rfl, rfl, Fr.refl _ _⟩
    case round =>
      obtain ⟨k, hk, rfl, hs, hf⟩ := hrel
      have HS := Lib.hid hs
      have HF := Lib.hid hf
      clear hs hf
      by_cases hlt : k < A.length
      · have hkl : (k : Int) < (A.length : Int) := by omega
        obtain ⟨xb, xo, xc, hvx, hxc⟩ := HA.out.form (by omega)
        simp only [Value.slice.injEq, true_and] at hvx
        obtain ⟨rfl, rfl⟩ := hvx
        have hB : 0 < B.length := by have := HLN.out; omega
        obtain ⟨yb, yo, yc, hvy, hyc⟩ := HB.out.form hB
        simp only [Value.slice.injEq] at hvy
        obtain ⟨rfl, -, rfl⟩ := hvy
        have hy : k < B.length := by have := HLN.out; omega
        obtain ⟨u, hu, hxu, hxl⟩ := hxc k _ (List.getElem?_eq_getElem hlt)
        obtain ⟨v, hv, hyv, hyl⟩ := hyc k _ (List.getElem?_eq_getElem hy)
        have q0 := HF.out.cell hu (fun h => h)
        have q1 := HF.out.cell hv (fun h => h)
        have HX : Hid (A.take (k + 1) = A.take k ++ [A[k]] ∧ B.take (k + 1) = B.take k ++ [B[k]]) := ⟨List.take_succ_eq_append_getElem hlt, List.take_succ_eq_append_getElem hy⟩
        have HNE : Hid (A[k] ≠ B[k] → res = false) := fun h => by
          rw [← HR.out]
          exact decide_eq_false (fun e => h (by subst e; rfl))
        have HXU := Lib.hid (hxu.fr HF.out (fun _ _ h => h))
        have HYV := Lib.hid (hyv.fr HF.out (fun _ _ h => h))
        generalize A[k] = x at *
        generalize B[k] = y at *
        clear hxc hyc hy hu hv hxu hyv hB
        go_wp2_with fail
        refine wp_region_sink 9 (fun w' : World => w'.cell? ⟨xb, xo + k, none⟩ = some u ∧ w'.cell? ⟨yb, yo + k, none⟩ = some v) (by kernel_rfl) ?_
        have hS : (fun w' : World => w'.cell? ⟨xb, xo + k, none⟩ = some u ∧ w'.cell? ⟨yb, yo + k, none⟩ = some v) wr.drew := ⟨q0, q1⟩
        have HF2 := Lib.hid HF.out.drew
        have HXU2 := Lib.hid (HXU.out.fr (Fr.refl wr Nil).drew (fun _ _ h => h))
        have HYV2 := Lib.hid (HYV.out.fr (Fr.refl wr Nil).drew (fun _ _ h => h))
        clear q0 q1 HXU HYV
        generalize wr.drew = w2 at *
        refine wpAnyS_take (i := 0) (v := ?_) rfl (by kernel_rfl) (fun _ _ _ h => h) (by rfl) hS ?_ ?_
        rotate_left
        · intro w' hS'
          (try dsimp only at hS')
          go_simp <;> with_reducible rfl
        try simp only [Act.put, List.setIfInBounds_toArray, List.set_cons_zero, List.set_cons_succ]
        refine wpAnyS_take (i := 1) (v := ?_) rfl (by kernel_rfl) (fun _ _ _ h => h) (by rfl) hS ?_ ?_
        rotate_left
        · intro w' hS'
          (try dsimp only at hS')
          go_simp <;> with_reducible rfl
        try simp only [Act.put, List.setIfInBounds_toArray, List.set_cons_zero, List.set_cons_succ]
        refine wpAnyS_take (i := 2) (v := ?_) rfl (by kernel_rfl) (fun _ _ _ h => h) (by rfl) hS ?_ ?_
        rotate_left
        · intro w' hS'
          (try dsimp only at hS')
          go_simp <;> with_reducible rfl
        try simp only [Act.put, List.setIfInBounds_toArray, List.set_cons_zero, List.set_cons_succ]
        refine wpAnyS_take (i := 3) (v := ?_) rfl (by kernel_rfl) (fun _ _ _ h => h) (by rfl) hS ?_ ?_
        rotate_left
        · intro w' hS'
          (try dsimp only at hS')
          go_simp <;> with_reducible rfl
        try simp only [Act.put, List.setIfInBounds_toArray, List.set_cons_zero, List.set_cons_succ]
        refine wpAnyS_take (i := 4) (v := ?_) rfl (by kernel_rfl) (fun _ _ _ h => h) (by rfl) hS ?_ ?_
        rotate_left
        · intro w' hS'
          (try dsimp only at hS')
          go_simp <;> with_reducible rfl
        try simp only [Act.put, List.setIfInBounds_toArray, List.set_cons_zero, List.set_cons_succ]
        refine wpAnyS_take (i := 5) (v := ?_) rfl (by kernel_rfl) (fun _ _ _ h => h) (by rfl) hS ?_ ?_
        rotate_left
        · intro w' hS'
          (try dsimp only at hS')
          go_simp <;> with_reducible rfl
        try simp only [Act.put, List.setIfInBounds_toArray, List.set_cons_zero, List.set_cons_succ]
        refine wpAnyS_take (i := 6) (v := ?_) rfl (by kernel_rfl) (fun _ _ _ h => h) (by rfl) hS ?_ ?_
        rotate_left
        · intro w' hS'
          (try dsimp only at hS')
          go_simp <;> with_reducible rfl
        try simp only [Act.put, List.setIfInBounds_toArray, List.set_cons_zero, List.set_cons_succ]
        refine wpAnyS_take (i := 7) (v := ?_) rfl (by kernel_rfl) (fun _ _ _ h => h) (by rfl) hS ?_ ?_
        rotate_left
        · intro w' hS'
          (try dsimp only at hS')
          go_simp <;> with_reducible rfl
        try simp only [Act.put, List.setIfInBounds_toArray, List.set_cons_zero, List.set_cons_succ]
        refine wpAnyS_one (i := 8) rfl (by kernel_rfl) (by decide) (by rfl) fun K hK => ?_
        go_simp
        refine (sameInts_any u v x y w2 HXU2.out HYV2.out hxl hyl).mono ?_
        rintro e w3 ⟨rfl, hf3⟩
        refine hK.out _ _ ⟨hf3.cell hS.1 (fun h => h), hf3.cell hS.2 (fun h => h)⟩ ?_
        have HF3 := Lib.hid (HF2.out.trans0 hf3)
        clear hK K hS hf3
        try simp only [Act.put, List.setIfInBounds_toArray, List.set_cons_zero, List.set_cons_succ]
        generalize hd : decide (x = y) = d
        have HD := Lib.hid hd
        clear hd
        refine wpAnyS_last (i := 9) rfl (by kernel_rfl) (by decide) (by kernel_rfl) (by rfl) fun K hK => ?_
        go_simp
        refine hK.out _ _ ?_
        clear hK K
        cases d with
        | true =>
          have HE := Lib.hid (of_decide_eq_true HD.out)
          go_wp2_with fail
          go_roundw
          case rel => exact ⟨k + 1, by omega, by go_num, by have h9 := HS.out; unfold SameToR at h9 ⊢; rw [HX.out.1, HX.out.2, HE.out, h9], HF3.out⟩
          case measure => simp [intOf]; omega
        | false =>
          have HE := Lib.hid (HNE.out (of_decide_eq_false HD.out))
          go_wp2_with fail
          go_ret
          exact ⟨by rw [HE.out]; rfl, HF3.out⟩
      · obtain rfl : k = A.length := by omega
        have HE : Hid (res = true) := by
          have h1 := HS.out
          unfold SameToR at h1
          rw [List.take_length, HLN.out, List.take_length] at h1
          have : res = true := by rw [← HR.out]; exact decide_eq_true h1
          exact this
        go_wp2_with fail
        go_ret
        exact ⟨by rw [HE.out]; rfl, HF.out⟩
  · have HE : Hid (res = false) := by
      have : res = false := by rw [← HR.out]; exact decide_eq_false (fun e => hlen (by rw [e]))
      exact this
    have h1 : ((A.length : Int) != (B.length : Int)) = true := by simp; omega
    clear hlen
    go_enter Try.func20, Try.ntmps20
    go_wp2_with fail
    go_ret
    exact ⟨by rw [HE.out]; rfl, Fr.refl _ _⟩
def ownTo (G : List (List Int)) (m : Nat) : List (List Int) := G.take m ++ List.replicate (G.length - m) []
theorem ownTo_len (G : List (List Int)) (m : Nat) (h : m ≤ G.length) : (ownTo G m).length = G.length := by unfold ownTo; simp; omega
theorem ownTo_get {G : List (List Int)} {m : Nat} (h : m < G.length) : (ownTo G m)[m]? = some [] := by
  unfold ownTo
  rw [List.getElem?_append_right (by simp; omega), List.length_take, Nat.min_eq_left (by omega), Nat.sub_self, List.getElem?_replicate, if_pos (by omega)]
theorem ownTo_set {G : List (List Int)} {m : Nat} {xs : List Int} (h : G[m]? = some xs) : (ownTo G m).set m ([] ++ xs) = ownTo G (m + 1) := by
  have hm := (List.getElem?_eq_some_iff.1 h).1
  unfold ownTo
  obtain ⟨k, hk⟩ : ∃ k, G.length = m + k + 1 := ⟨G.length - m - 1, by omega⟩
  rw [List.set_append_right _ _ (by simp; omega), List.length_take, Nat.min_eq_left (by omega), Nat.sub_self, hk, show m + k + 1 - m = k + 1 by omega, show m + k + 1 - (m + 1) = k by omega, List.replicate_succ, List.set_cons_zero, List.take_add_one, h]
  simp
theorem ownTo_all (G : List (List Int)) : ownTo G G.length = G := by unfold ownTo; simp
set_option maxRecDepth 100000 in
set_option maxHeartbeats 1000000 in
theorem own_any (gv : Value) (G : List (List Int)) (w : World) (h : GraphAt w gv G) (hl : G.length ≤ 1000) (hr : ∀ xs ∈ G, xs.length ≤ 100000) :
    Calls Try.prog 12 #[gv] w fun e w' => ∃ b, e = .returned (.slice (some ⟨b, 0, none⟩) G.length G.length) ∧ Lies w w' [gT (.slice (some ⟨b, 0, none⟩) G.length G.length) G] := by
  obtain ⟨ir, hir, hr0, hr1, hr2⟩ := info_parts (P := Try.prog) (e := 27) (z := .slice none 0 0) (size := 1) (bytes := 24) (by kernel_rfl)
  have hrl := h
  obtain ⟨ga, gcap, rfl⟩ := h.shape
  have HG := Lib.hid hrl
  have HRW := Lib.hid hr
  have Hb2 : Hid (G.length ≤ maxLen) := by
    have : G.length ≤ maxLen := by unfold maxLen; omega
    exact this
  obtain ⟨w1, hrun, hown, hgr⟩ := run_make_full (P := Try.prog) w 0 23 27 ir (.slice none 0 0) 1 Try.underlying23 hir hr0 hr1 .i64 .i64 G.length (by rw [hr2]; omega) Hb2.out (Nat.zero_le _)
  have HL0 := Lib.hid ((Lies.nil (Fr.refl w Nil)).gmade rfl hown ((Fr.refl w Nil).grown hgr (fun k hk => by cases hk)))
  clear h hrl hown hgr hr
  go_enter Try.func12, Try.ntmps12
  go_wp2_with fail
  generalize w.heap.size = b at HL0 ⊢
  clear hrun
  go_loopw [4] (fun vi wr => ∃ m : Nat, m ≤ G.length ∧ vi = .int .i64 m ∧ Lies w wr [gT (.slice (some ⟨b, 0, none⟩) G.length G.length) (ownTo G m)]) (fun vi _ => G.length - (intOf vi).toNat)
  case atStart => exact ⟨0, by omega, rfl, by have := HL0.out; unfold ownTo; simpa using this⟩
  case round =>
    obtain ⟨m, hm, rfl, hL⟩ := hrel
    have HL := Lib.hid hL
    clear hL HL0
    by_cases hlt : m < G.length
    · have hml : (m : Int) < (G.length : Int) := by omega
      have hgm := List.getElem?_eq_getElem hlt
      generalize G[m] = xs at hgm
      obtain ⟨gb, go, gc, hv, hc⟩ := HG.out.form (by omega)
      simp only [Value.slice.injEq, true_and] at hv
      obtain ⟨rfl, rfl⟩ := hv
      obtain ⟨u, q9, hxu, -⟩ := hc m xs hgm
      have q1 := HL.out.fr.cell q9 (fun h => h)
      have Q9 := Lib.hid q9
      obtain ⟨ua, uc, q0, -, -⟩ := HL.out.gcell 0 rfl m [] (ownTo_get hlt)
      have hxl := HRW.out xs (List.mem_of_getElem? hgm)
      have HGM := Lib.hid hgm
      have HXU := Lib.hid (hxu.fr HL.out.fr.drew (fun _ _ h => h))
      have HK0 := Lib.hid ((LK.start HL.out 0).drew)
      clear hc hgm hxu q9
      simp only [List.length_nil] at q0
      go_wp2_with fail
      refine wp_region_sink 12 (fun w' : World => w'.cell? ⟨b, m, none⟩ = some (.slice ua 0 uc) ∧ w'.cell? ⟨gb, go + m, none⟩ = some u) (by kernel_rfl) ?_
      have hS : (fun w' : World => w'.cell? ⟨b, m, none⟩ = some (.slice ua 0 uc) ∧ w'.cell? ⟨gb, go + m, none⟩ = some u) wr.drew := ⟨q0, q1⟩
      clear q0 q1
      generalize wr.drew = w2 at *
      refine wpAnyS_take (i := 0) (v := ?_) rfl (by kernel_rfl) (fun _ _ _ h => h) (by rfl) hS ?_ ?_
      rotate_left
      · intro w' hS'
        (try dsimp only at hS')
        go_simp <;> with_reducible rfl
      try simp only [Act.put, List.setIfInBounds_toArray, List.set_cons_zero, List.set_cons_succ]
      refine wpAnyS_take (i := 1) (v := ?_) rfl (by kernel_rfl) (fun _ _ _ h => h) (by rfl) hS ?_ ?_
      rotate_left
      · intro w' hS'
        (try dsimp only at hS')
        go_simp <;> with_reducible rfl
      try simp only [Act.put, List.setIfInBounds_toArray, List.set_cons_zero, List.set_cons_succ]
      refine wpAnyS_take (i := 2) (v := ?_) rfl (by kernel_rfl) (fun _ _ _ h => h) (by rfl) hS ?_ ?_
      rotate_left
      · intro w' hS'
        (try dsimp only at hS')
        go_simp <;> with_reducible rfl
      try simp only [Act.put, List.setIfInBounds_toArray, List.set_cons_zero, List.set_cons_succ]
      refine wpAnyS_take (i := 3) (v := ?_) rfl (by kernel_rfl) (fun _ _ _ h => h) (by rfl) hS ?_ ?_
      rotate_left
      · intro w' hS'
        (try dsimp only at hS')
        go_simp <;> with_reducible rfl
      try simp only [Act.put, List.setIfInBounds_toArray, List.set_cons_zero, List.set_cons_succ]
      refine wpAnyS_take (i := 4) (v := ?_) rfl (by kernel_rfl) (fun _ _ _ h => h) (by rfl) hS ?_ ?_
      rotate_left
      · intro w' hS'
        (try dsimp only at hS')
        go_simp <;> with_reducible rfl
      try simp only [Act.put, List.setIfInBounds_toArray, List.set_cons_zero, List.set_cons_succ]
      refine wpAnyS_take (i := 5) (v := ?_) rfl (by kernel_rfl) (fun _ _ _ h => h) (by rfl) hS ?_ ?_
      rotate_left
      · intro w' hS'
        (try dsimp only at hS')
        go_simp <;> with_reducible rfl
      try simp only [Act.put, List.setIfInBounds_toArray, List.set_cons_zero, List.set_cons_succ]
      refine wpAnyS_take (i := 6) (v := ?_) rfl (by kernel_rfl) (fun _ _ _ h => h) (by rfl) hS ?_ ?_
      rotate_left
      · intro w' hS'
        (try dsimp only at hS')
        go_simp <;> with_reducible rfl
      try simp only [Act.put, List.setIfInBounds_toArray, List.set_cons_zero, List.set_cons_succ]
      refine wpAnyS_take (i := 7) (v := ?_) rfl (by kernel_rfl) (fun _ _ _ h => h) (by rfl) hS ?_ ?_
      rotate_left
      · intro w' hS'
        (try dsimp only at hS')
        go_simp <;> with_reducible rfl
      try simp only [Act.put, List.setIfInBounds_toArray, List.set_cons_zero, List.set_cons_succ]
      refine wpAnyS_take (i := 8) (v := ?_) rfl (by kernel_rfl) (fun _ _ _ h => h) (by rfl) hS ?_ ?_
      rotate_left
      · intro w' hS'
        (try dsimp only at hS')
        go_simp <;> with_reducible rfl
      try simp only [Act.put, List.setIfInBounds_toArray, List.set_cons_zero, List.set_cons_succ]
      refine wpAnyS_take (i := 9) (v := ?_) rfl (by kernel_rfl) (fun _ _ _ h => h) (by rfl) hS ?_ ?_
      rotate_left
      · intro w' hS'
        (try dsimp only at hS')
        go_simp <;> with_reducible rfl
      try simp only [Act.put, List.setIfInBounds_toArray, List.set_cons_zero, List.set_cons_succ]
      refine wpAnyS_one (i := 10) rfl (by kernel_rfl) (by decide) (by rfl) fun K hK => ?_
      refine wp_gappS _ _ (by rfl) HK0.out (xs := []) (ys := xs) (k := m) (by rfl) (by rfl) 0 rfl (ownTo_get hlt) hS.1 HXU.out (by simp; omega) ?_
      intro a3 c3 w3 hk3 q3 f3 hk4
      rw [ownTo_set HGM.out] at hk4
      simp only [List.length_nil, Nat.zero_add] at q3 hk4 ⊢
      have HL4 := Lib.hid hk4.1
      have q4 : w3.cell? ⟨gb, go + m, none⟩ = some u := hk3.1.fr.cell Q9.out (fun h => h)
      refine hK.out _ _ ⟨q3, q4⟩ ?_
      clear hK K hS hk3 hk4
      try simp only [Act.put, List.setIfInBounds_toArray, List.set_cons_zero, List.set_cons_succ]
      have hS3 : (fun w' : World => w'.cell? ⟨b, m, none⟩ = some (.slice ua 0 uc) ∧ w'.cell? ⟨gb, go + m, none⟩ = some u) w3 := ⟨q3, q4⟩
      refine wpAnyS_take (i := 11) (v := ?_) rfl (by kernel_rfl) (fun _ _ _ h => h) (by rfl) hS3 ?_ ?_
      rotate_left
      · intro w' hS'
        (try dsimp only at hS')
        go_simp <;> with_reducible rfl
      try simp only [Act.put, List.setIfInBounds_toArray, List.set_cons_zero, List.set_cons_succ]
      refine wpAnyS_last (i := 12) rfl (by kernel_rfl) (by decide) (by kernel_rfl) (by rfl) fun K hK => ?_
      go_simp
      refine hK.out _ _ ?_
      clear hK K hS3
      go_wp2_with fail
      go_roundw
      case rel => exact ⟨m + 1, by omega, by go_num, HL4.out⟩
      case measure => simp [intOf]; omega
    · obtain rfl : m = G.length := by omega
      rw [ownTo_all] at HL
      go_wp2_with fail
      go_ret
      exact ⟨b, rfl, HL.out⟩
end Go.Proofs.Ytkeiphmhckkniaa
