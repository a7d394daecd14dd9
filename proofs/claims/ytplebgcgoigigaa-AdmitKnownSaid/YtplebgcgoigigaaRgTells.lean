/-
  The law's helper tells (interlocklaw17): both gates tell the same.
  No condition but sizes.
-/
import Derived.Test.YtplebgcgoigigaaRgDoes
namespace Go.Proofs.Ytplebgcgoigigaa
open Go Go.RowKit Go.Maps Go.Shelf

theorem keysOf_lt {c : CapD} {M : List MR} (h : Inv c M) {i j : Nat} {x y : Int} (hij : i < j) (hx : (keysOf M)[i]? = some x) (hy : (keysOf M)[j]? = some y) : x < y := by
  have h1 := List.pairwise_mergeSort (le := fun x y : Int => decide (x ≤ y)) (fun a b c => by simp; omega) (fun a b => by simp; omega) (M.map Prod.fst)
  obtain ⟨hi, rfl⟩ := List.getElem?_eq_some_iff.1 hx
  obtain ⟨hj, rfl⟩ := List.getElem?_eq_some_iff.1 hy
  have h2 := (List.pairwise_iff_getElem.1 h1) i j hi hj hij
  have h3 := (List.nodup_iff_pairwise_ne.1 (keysOf_nodup h))
  have h4 := (List.pairwise_iff_getElem.1 h3) i j hi hj hij
  have h5 : (keysOf M)[i] ≤ (keysOf M)[j] := of_decide_eq_true h2
  omega
theorem sumK_all {c : CapD} {M : List MR} (h : Inv c M) (p : Nd → Int) : sumK p M (keysOf M) = sumP p M := by rw [sumK_perm p M (keysOf_perm M), sumK_keys h.keys fun q hq => hq]
theorem RG.frS {B : Nat} {w w' : World} {rb : Nat} {c : CapD} {M : List MR} {lv : Value} {S : Nat → Prop} (h : RG B w rb c M lv) (hf : Fr w w' S) (h1 : ¬ S rb) (h2 : ∀ k, lv.ownBlock = some k → ¬ S k) : RG B w' rb c M lv :=
  ⟨h.root.fr hf h1, hf.own h.own h2, h.fresh, h.rbB⟩
theorem OwnInts.set {w : World} {e : TypeId} {b n cap : Nat} {xs : List Int} (h : OwnInts w e (.slice (some ⟨b, 0, none⟩) n cap) xs) (hn : n = xs.length) (c : Nat) (x : Int) :
    OwnInts (w.setCell ⟨b, c, none⟩ (.int .i64 x)) e (.slice (some ⟨b, 0, none⟩) n cap) (xs.set c x) := by
  subst hn
  refine ⟨by simp, ?_⟩
  rcases h.2 with ⟨he, _⟩ | ⟨g, cap', cur, he, hb, hg, hc, hm, hs, ht⟩
  · cases he
  · cases he
    refine .inr ⟨b, cap, cur.setIfInBounds c (.int .i64 x), by rw [List.length_set], Nat.zero_le _, ?_, by rw [List.length_set]; exact hc, hm, by simpa using hs, ?_⟩
    · rw [heap_setCell_same w b c _ e _ hg]
    · rw [List.length_set, Array.toList_setIfInBounds, List.take_set, ht, List.map_set]
/-- Where who is in, stands what was asked for. -/
theorem mat_getV {c : CapD} {M : List MR} (h : Inv c M) {x : Int} (hx : hasK M x = true) : ∃ j : Nat, mat M x = (j : Int) ∧ M[j]? = some (x, getV M x zeroN) := by
  rcases mat_spec M x with ⟨_, h2⟩ | ⟨j, r, h1, hj, hr, _⟩
  · rw [h2] at hx; cases hx
  · refine ⟨j, h1, ?_⟩
    rw [hj]
    have hm := List.mem_of_getElem? hj
    obtain ⟨a, n⟩ := r
    simp only at hr
    subst hr
    rw [getV_mem h.keys hm]

set_option maxRecDepth 100000 in
set_option maxHeartbeats 1000000 in
theorem tells_any {B gb bm rb : Nat} {c : CapD} {M : List MR} (w : World) (hg : GateAt w gb bm c M) (hr : RGat B w rb c M) (hi : Inv c M) (hl : M.length ≤ 1000) :
    Calls Try.prog 16 #[.pointer (some ⟨gb, 0, none⟩), .pointer (some ⟨rb, 0, none⟩)] w fun e w' => e = .returned (.bool true) ∧ Fr w w' Nil := by
  obtain ⟨lv, hr⟩ := hr
  obtain ⟨la, lcap, hlv⟩ := hr.sl.shape
  subst hlv
  have HI := Lib.hid hi
  have HG := Lib.hid hg
  have HR := Lib.hid hr
  clear hg hr hi
  go_enter Try.func16, Try.ntmps16
  go_wp2_with fail
  refine (in_any gb bm c M _ HG.out (by omega)).mono ?_
  rintro e w1 ⟨v, rfl, hv, hvn, hf1⟩
  obtain ⟨va, vcap, rfl⟩ := hv.shape
  rw [keysOf_len] at hv hvn ⊢
  have HV := Lib.hid hv
  have HVN := Lib.hid hvn
  have HG1 := Lib.hid (HG.out.fr0 hf1)
  have HR1 := Lib.hid (HR.out.fr0 hf1)
  have HF1 := Lib.hid hf1
  have HKH := Lib.hid (fun (i : Nat) (x : Int) (hx : (keysOf M)[i]? = some x) => keysOf_has hx)
  have HLT := Lib.hid (fun (i j : Nat) (x y : Int) (hij : i < j) (hx : (keysOf M)[i]? = some x) (hy : (keysOf M)[j]? = some y) => keysOf_lt HI.out hij hx hy)
  have HSL := Lib.hid (fun i => sumK_take HI.out Nd.l (fun n hn => (Nd.may_iff.1 hn).2.1.1) i)
  have HSU := Lib.hid (fun i => sumK_take HI.out Nd.u (fun n hn => (Nd.may_iff.1 hn).2.2.1) i)
  have HSS := Lib.hid (fun (p : Nd → Int) (i : Nat) (x : Int) (hx : (keysOf M)[i]? = some x) => sumK_succ p hx)
  have HSA := Lib.hid (fun p => sumK_all HI.out p)
  have HKL := Lib.hid (keysOf_len M)
  clear hv hvn hf1
  generalize keysOf M = ks at *
  have q0 := HR1.out.root.cell 0
  have q1 := HR1.out.root.cell 1
  have q2 := HR1.out.root.cell 2
  have q3 := HR1.out.root.cell 3
  simp only [List.getElem?_cons_zero, List.getElem?_cons_succ] at q0 q1 q2 q3
  have hln := HI.out.n
  have hcm := CapD.may_iff.1 HI.out.caps
  have hwn : wrap64 (c.n - (M.length : Int)) = c.n - (M.length : Int) := by unfold wrap64; omega
  go_wp2_with fail
  have k0 := KeptF.cell q0
  have k1 := KeptF.cell q1
  have k2 := KeptF.cell q2
  have k3 := KeptF.cell q3
  refine wp_region_sink 20 (KeptF w1) (by kernel_rfl) ?_
  have hSa : KeptF w1 w1.drew := KeptF.start _
  refine wpAnyS_take (i := 0) (v := ?_) rfl (by kernel_rfl) (fun _ _ _ h => h) (by rfl) hSa ?_ ?_
  rotate_left
  · intro w' hS'
    (try dsimp only at hS')
    go_simp <;> with_reducible rfl
  try simp only [Act.put, List.setIfInBounds_toArray, List.set_cons_zero, List.set_cons_succ]
  refine wpAnyS_take (i := 1) (v := ?_) rfl (by kernel_rfl) (fun _ _ _ h => h) (by rfl) hSa ?_ ?_
  rotate_left
  · intro w' hS'
    (try dsimp only at hS')
    go_simp <;> with_reducible rfl
  try simp only [Act.put, List.setIfInBounds_toArray, List.set_cons_zero, List.set_cons_succ]
  refine wpAnyS_take (i := 2) (v := ?_) rfl (by kernel_rfl) (fun _ _ _ h => h) (by rfl) hSa ?_ ?_
  rotate_left
  · intro w' hS'
    (try dsimp only at hS')
    go_simp <;> with_reducible rfl
  try simp only [Act.put, List.setIfInBounds_toArray, List.set_cons_zero, List.set_cons_succ]
  refine wpAnyS_take (i := 3) (v := ?_) rfl (by kernel_rfl) (fun _ _ _ h => h) (by rfl) hSa ?_ ?_
  rotate_left
  · intro w' hS'
    have ck0 := k0 _ hS'
    go_simp <;> with_reducible rfl
  try simp only [Act.put, List.setIfInBounds_toArray, List.set_cons_zero, List.set_cons_succ]
  refine wpAnyS_take (i := 4) (v := ?_) rfl (by kernel_rfl) (fun _ _ _ h => h) (by rfl) hSa ?_ ?_
  rotate_left
  · intro w' hS'
    (try dsimp only at hS')
    go_simp <;> with_reducible rfl
  try simp only [Act.put, List.setIfInBounds_toArray, List.set_cons_zero, List.set_cons_succ]
  refine wpAnyS_take (i := 5) (v := ?_) rfl (by kernel_rfl) (fun _ _ _ h => h) (by rfl) hSa ?_ ?_
  rotate_left
  · intro w' hS'
    (try dsimp only at hS')
    go_simp <;> with_reducible rfl
  try simp only [Act.put, List.setIfInBounds_toArray, List.set_cons_zero, List.set_cons_succ]
  refine wpAnyS_take (i := 6) (v := ?_) rfl (by kernel_rfl) (fun _ _ _ h => h) (by rfl) hSa ?_ ?_
  rotate_left
  · intro w' hS'
    (try dsimp only at hS')
    go_simp <;> with_reducible rfl
  try simp only [Act.put, List.setIfInBounds_toArray, List.set_cons_zero, List.set_cons_succ]
  refine wpAnyS_take (i := 7) (v := ?_) rfl (by kernel_rfl) (fun _ _ _ h => h) (by rfl) hSa ?_ ?_
  rotate_left
  · intro w' hS'
    have ck3 := k3 _ hS'
    go_simp <;> with_reducible rfl
  try simp only [Act.put, List.setIfInBounds_toArray, List.set_cons_zero, List.set_cons_succ]
  refine wpAnyS_take (i := 8) (v := ?_) rfl (by kernel_rfl) (fun _ _ _ h => h) (by rfl) hSa ?_ ?_
  rotate_left
  · intro w' hS'
    (try dsimp only at hS')
    go_simp <;> with_reducible rfl
  try simp only [Act.put, List.setIfInBounds_toArray, List.set_cons_zero, List.set_cons_succ]
  refine wpAnyS_take (i := 9) (v := ?_) rfl (by kernel_rfl) (fun _ _ _ h => h) (by rfl) hSa ?_ ?_
  rotate_left
  · intro w' hS'
    (try dsimp only at hS')
    go_simp <;> with_reducible rfl
  try simp only [Act.put, List.setIfInBounds_toArray, List.set_cons_zero, List.set_cons_succ]
  refine wpAnyS_take (i := 10) (v := ?_) rfl (by kernel_rfl) (fun _ _ _ h => h) (by rfl) hSa ?_ ?_
  rotate_left
  · intro w' hS'
    (try dsimp only at hS')
    go_simp <;> with_reducible rfl
  try simp only [Act.put, List.setIfInBounds_toArray, List.set_cons_zero, List.set_cons_succ]
  refine wpAnyS_take (i := 11) (v := ?_) rfl (by kernel_rfl) (fun _ _ _ h => h) (by rfl) hSa ?_ ?_
  rotate_left
  · intro w' hS'
    (try dsimp only at hS')
    go_simp <;> with_reducible rfl
  try simp only [Act.put, List.setIfInBounds_toArray, List.set_cons_zero, List.set_cons_succ]
  refine wpAnyS_take (i := 12) (v := ?_) rfl (by kernel_rfl) (fun _ _ _ h => h) (by rfl) hSa ?_ ?_
  rotate_left
  · intro w' hS'
    (try dsimp only at hS')
    go_simp <;> with_reducible rfl
  try simp only [Act.put, List.setIfInBounds_toArray, List.set_cons_zero, List.set_cons_succ]
  refine wpAnyS_take (i := 13) (v := ?_) rfl (by kernel_rfl) (fun _ _ _ h => h) (by rfl) hSa ?_ ?_
  rotate_left
  · intro w' hS'
    have ck1 := k1 _ hS'
    go_simp <;> with_reducible rfl
  try simp only [Act.put, List.setIfInBounds_toArray, List.set_cons_zero, List.set_cons_succ]
  refine wpAnyS_take (i := 14) (v := ?_) rfl (by kernel_rfl) (fun _ _ _ h => h) (by rfl) hSa ?_ ?_
  rotate_left
  · intro w' hS'
    (try dsimp only at hS')
    go_simp <;> with_reducible rfl
  try simp only [Act.put, List.setIfInBounds_toArray, List.set_cons_zero, List.set_cons_succ]
  refine wpAnyS_take (i := 15) (v := ?_) rfl (by kernel_rfl) (fun _ _ _ h => h) (by rfl) hSa ?_ ?_
  rotate_left
  · intro w' hS'
    (try dsimp only at hS')
    go_simp <;> with_reducible rfl
  try simp only [Act.put, List.setIfInBounds_toArray, List.set_cons_zero, List.set_cons_succ]
  refine wpAnyS_take (i := 16) (v := ?_) rfl (by kernel_rfl) (fun _ _ _ h => h) (by rfl) hSa ?_ ?_
  rotate_left
  · intro w' hS'
    (try dsimp only at hS')
    go_simp <;> with_reducible rfl
  try simp only [Act.put, List.setIfInBounds_toArray, List.set_cons_zero, List.set_cons_succ]
  refine wpAnyS_take (i := 17) (v := ?_) rfl (by kernel_rfl) (fun _ _ _ h => h) (by rfl) hSa ?_ ?_
  rotate_left
  · intro w' hS'
    have ck2 := k2 _ hS'
    go_simp <;> with_reducible rfl
  try simp only [Act.put, List.setIfInBounds_toArray, List.set_cons_zero, List.set_cons_succ]
  refine wpAnyS_take (i := 18) (v := ?_) rfl (by kernel_rfl) (fun _ _ _ h => h) (by rfl) hSa ?_ ?_
  rotate_left
  · intro w' hS'
    (try dsimp only at hS')
    go_simp <;> with_reducible rfl
  try simp only [Act.put, List.setIfInBounds_toArray, List.set_cons_zero, List.set_cons_succ]
  refine wpAnyS_one (i := 19) rfl (by kernel_rfl) (by decide) (by rfl) fun K hK => ?_
  go_simp
  refine hK.out _ _ (((Fr.refl w1 Nil).alloc _).drew) ?_
  clear hK K
  try simp only [Act.put, List.setIfInBounds_toArray, List.set_cons_zero, List.set_cons_succ]
  refine wpAnyS_last (i := 20) rfl (by kernel_rfl) (by decide) (by kernel_rfl) (by rfl) fun K hK => ?_
  go_simp
  refine hK.out _ _ ?_
  clear hK K hSa k0 k1 k2 k3 q0 q1 q2 q3
  have HNN : Hid (IntKind.i64.wrap (c.n - (M.length : Int)) = c.n - (M.length : Int)) := by
    have : IntKind.i64.wrap (c.n - (M.length : Int)) = c.n - (M.length : Int) := by rw [IntKind.wrap_i64]; omega
    exact this
  generalize IntKind.i64.wrap (c.n - (M.length : Int)) = nn at *
  have HB2 := Lib.hid ((bk_at w1 23 #[.int .i64 nn, .int .i64 c.l, .int .i64 c.u] _ rfl).drew)
  have hf2 := ((Fr.refl w1 Nil).alloc (.cells #[.int .i64 nn, .int .i64 c.l, .int .i64 c.u] 23)).drew
  have HG2 := Lib.hid (HG1.out.fr0 hf2)
  have HR2 := Lib.hid (HR1.out.fr0 hf2)
  have HV2 := Lib.hid (HV.out.fr hf2 fun _ _ h => h)
  have HF2 := Lib.hid (HF1.out.trans0 hf2)
  have HFB : Hid (bm < w1.heap.size ∧ gb < w1.heap.size ∧ rb < w1.heap.size ∧ (∀ k, (Value.slice la M.length lcap).ownBlock = some k → k < w1.heap.size) ∧ (∀ k, (Value.slice va M.length vcap).ownBlock = some k → k < w1.heap.size) ∧ w.heap.size ≤ w1.heap.size) :=
    ⟨HG1.out.2.lt, HG1.out.1.lt, HR1.out.rb_lt, fun k hk => (World.ownsRow.lt HR1.out.own k hk).2, fun k hk => (World.ownsRow.lt HV.out k hk).2, HF1.out.size⟩
  clear hf2 HG1 HR1 HV HF1 hwn
  generalize (w1.alloc (.cells #[.int .i64 nn, .int .i64 c.l, .int .i64 c.u] 23)).drew = w2 at *
  generalize w1.heap.size = fb at *
  go_wp2_with fail
  go_loopw [7, 8, 9, 10, 11] (fun vi _ _ _ _ wr => ∃ (i : Nat) (f g : Int), i ≤ M.length ∧ vi = .int .i64 i ∧ f = c.l - sumK Nd.l M (ks.take i) ∧ g = c.u - sumK Nd.u M (ks.take i) ∧ Bk wr fb 23 [.int .i64 nn, .int .i64 f, .int .i64 g] ∧ Fr w2 wr (fun k => k = fb)) (fun vi _ _ _ _ _ => M.length - (intOf vi).toNat)
  case atStart => exact ⟨0, c.l, c.u, by omega, rfl, by simp [sumK], by simp [sumK], HB2.out, Fr.refl _ _⟩
  case round =>
    clear HB2
    obtain ⟨i, f, g, hi, rfl, hff, hgg, hb, hf⟩ := hrel
    have HFF := Lib.hid hff
    have HGG := Lib.hid hgg
    have HBr := Lib.hid hb
    have Hf := Lib.hid hf
    have HGr := Lib.hid (HG2.out.fr hf (by have := HFB.out; omega) (by have := HFB.out; omega))
    have HRr := Lib.hid (HR2.out.frS hf (by have := HFB.out; omega) (fun k hk e => by have := HFB.out.2.2.2.1 k hk; omega))
    obtain ⟨wo, rfl⟩ : ∃ wo : World, wo = wr := ⟨_, rfl⟩
    clear hff hgg hb hf
    by_cases hlt : i < M.length
    · have hki : i < ks.length := by have := HKL.out; omega
      have hgx := List.getElem?_eq_getElem hki
      generalize hx : ks[i] = x at hgx
      have HGX := Lib.hid hgx
      have HKX := Lib.hid (HKH.out i x hgx)
      obtain ⟨j, hj1, hj2⟩ := mat_getV HI.out HKX.out
      obtain ⟨m1, m2, m3, m4, hgv⟩ : ∃ m1 m2 m3 m4, getV M x zeroN = ⟨m1, m2, m3, m4⟩ := ⟨_, _, _, _, rfl⟩
      rw [hgv] at hj2
      have HGV := Lib.hid hgv
      have HJ := Lib.hid hj1
      have HJ2 := Lib.hid hj2
      have hjl : j < M.length := (List.getElem?_eq_some_iff.1 hj2).1
      have hij : (i : Int) < (M.length : Int) := by omega
      have hjj : (j : Int) < (M.length : Int) := by omega
      have HXW := Lib.hid (HI.out.key_wf HKX.out)
      have HIA := Lib.hid (HV2.out.fr Hf.out (fun k hk e => by have := HFB.out.2.2.2.2.1 k hk; omega)).at
      obtain ⟨xb, xoff, xcap, hxv, hxc⟩ := HIA.out.form (by omega)
      rw [HKL.out] at hxv
      simp only [Value.slice.injEq, true_and] at hxv
      obtain ⟨rfl, rfl⟩ := hxv
      have e0 := hxc i x hgx
      have HXC := Lib.hid hxc
      clear hxc hgx hj1 hj2 hgv hx
      go_wp2_with fail
      refine (rgat_any x wo ⟨_, HRr.out⟩ (by omega)).mono ?_
      rintro e w3 ⟨rfl, rfl⟩
      rw [HJ.out]
      have hj0 : decide ((j : Int) < 0) = false := decide_eq_false (by omega)
      obtain ⟨lb, loff, lcap2, hlv2, c0, c1, c2, c3, c4⟩ := HRr.out.cells HJ2.out
      simp only [Value.slice.injEq, true_and] at hlv2
      obtain ⟨rfl, rfl⟩ := hlv2
      have k0 := KeptF.cell c0
      have k1 := KeptF.cell c1
      have k2 := KeptF.cell c2
      have k3 := KeptF.cell c3
      have k4 := KeptF.cell c4
      have k5 := KeptF.cell e0
      have hmx := (HI.out.nd HKX.out).2
      have hl1 := HSS.out Nd.l i x HGX.out
      have hu1 := HSS.out Nd.u i x HGX.out
      have hl2 := (HSL.out (i + 1)).2
      have hl3 := (HSL.out i).1
      have hu2 := (HSU.out (i + 1)).2
      have hu3 := (HSU.out i).1
      have hff := HFF.out
      have hgg := HGG.out
      have hil := HI.out.l
      have hiu := HI.out.u
      rw [HGV.out] at hmx hl1 hu1
      have hmi := (Nd.may_iff (n := ⟨m1, m2, m3, m4⟩)).1 hmx
      simp only at hmi hl1 hu1
      have HWF : Hid (wrap64 (f - m3) = f - m3 ∧ wrap64 (g - m4) = g - m4 ∧ f - m3 = c.l - sumK Nd.l M (ks.take (i + 1)) ∧ g - m4 = c.u - sumK Nd.u M (ks.take (i + 1))) := by
        have : wrap64 (f - m3) = f - m3 ∧ wrap64 (g - m4) = g - m4 ∧ f - m3 = c.l - sumK Nd.l M (ks.take (i + 1)) ∧ g - m4 = c.u - sumK Nd.u M (ks.take (i + 1)) := by
          unfold wrap64
          omega
        exact this
      clear hmx hl1 hu1 hl2 hl3 hu2 hu3 hff hgg hil hiu hmi c0 c1 c2 c3 c4
      by_cases hi0 : i = 0
      · subst hi0
        simp only [Nat.add_zero] at e0 k5
        go_wp2_with fail
        refine wp_region_sink 17 (KeptF wo) (by kernel_rfl) ?_
        have hSa : KeptF wo wo.drew := KeptF.start _
        refine wpAnyS_take (i := 0) (v := ?_) rfl (by kernel_rfl) (fun _ _ _ h => h) (by rfl) hSa ?_ ?_
        rotate_left
        · intro w' hS'
          (try dsimp only at hS')
          go_simp <;> with_reducible rfl
        try simp only [Act.put, List.setIfInBounds_toArray, List.set_cons_zero, List.set_cons_succ]
        refine wpAnyS_take (i := 1) (v := ?_) rfl (by kernel_rfl) (fun _ _ _ h => h) (by rfl) hSa ?_ ?_
        rotate_left
        · intro w' hS'
          (try dsimp only at hS')
          go_simp <;> with_reducible rfl
        try simp only [Act.put, List.setIfInBounds_toArray, List.set_cons_zero, List.set_cons_succ]
        refine wpAnyS_take (i := 2) (v := ?_) rfl (by kernel_rfl) (fun _ _ _ h => h) (by rfl) hSa ?_ ?_
        rotate_left
        · intro w' hS'
          (try dsimp only at hS')
          go_simp <;> with_reducible rfl
        try simp only [Act.put, List.setIfInBounds_toArray, List.set_cons_zero, List.set_cons_succ]
        refine wpAnyS_take (i := 3) (v := ?_) rfl (by kernel_rfl) (fun _ _ _ h => h) (by rfl) hSa ?_ ?_
        rotate_left
        · intro w' hS'
          (try dsimp only at hS')
          go_simp <;> with_reducible rfl
        try simp only [Act.put, List.setIfInBounds_toArray, List.set_cons_zero, List.set_cons_succ]
        refine wpAnyS_take (i := 4) (v := ?_) rfl (by kernel_rfl) (fun _ _ _ h => h) (by rfl) hSa ?_ ?_
        rotate_left
        · intro w' hS'
          (try dsimp only at hS')
          go_simp <;> with_reducible rfl
        try simp only [Act.put, List.setIfInBounds_toArray, List.set_cons_zero, List.set_cons_succ]
        refine wpAnyS_take (i := 5) (v := ?_) rfl (by kernel_rfl) (fun _ _ _ h => h) (by rfl) hSa ?_ ?_
        rotate_left
        · intro w' hS'
          (try dsimp only at hS')
          go_simp <;> with_reducible rfl
        try simp only [Act.put, List.setIfInBounds_toArray, List.set_cons_zero, List.set_cons_succ]
        refine wpAnyS_skip (i := 6) rfl (by kernel_rfl) (fun _ _ _ h => h) (by rfl) hSa ?_
        try simp only [Act.put, List.setIfInBounds_toArray, List.set_cons_zero, List.set_cons_succ]
        refine wpAnyS_skip (i := 7) rfl (by kernel_rfl) (fun _ _ _ h => h) (by rfl) hSa ?_
        try simp only [Act.put, List.setIfInBounds_toArray, List.set_cons_zero, List.set_cons_succ]
        refine wpAnyS_skip (i := 8) rfl (by kernel_rfl) (fun _ _ _ h => h) (by rfl) hSa ?_
        try simp only [Act.put, List.setIfInBounds_toArray, List.set_cons_zero, List.set_cons_succ]
        refine wpAnyS_skip (i := 9) rfl (by kernel_rfl) (fun _ _ _ h => h) (by rfl) hSa ?_
        try simp only [Act.put, List.setIfInBounds_toArray, List.set_cons_zero, List.set_cons_succ]
        refine wpAnyS_skip (i := 10) rfl (by kernel_rfl) (fun _ _ _ h => h) (by rfl) hSa ?_
        try simp only [Act.put, List.setIfInBounds_toArray, List.set_cons_zero, List.set_cons_succ]
        refine wpAnyS_skip (i := 11) rfl (by kernel_rfl) (fun _ _ _ h => h) (by rfl) hSa ?_
        try simp only [Act.put, List.setIfInBounds_toArray, List.set_cons_zero, List.set_cons_succ]
        refine wpAnyS_skip (i := 12) rfl (by kernel_rfl) (fun _ _ _ h => h) (by rfl) hSa ?_
        try simp only [Act.put, List.setIfInBounds_toArray, List.set_cons_zero, List.set_cons_succ]
        refine wpAnyS_skip (i := 13) rfl (by kernel_rfl) (fun _ _ _ h => h) (by rfl) hSa ?_
        try simp only [Act.put, List.setIfInBounds_toArray, List.set_cons_zero, List.set_cons_succ]
        refine wpAnyS_skip (i := 14) rfl (by kernel_rfl) (fun _ _ _ h => h) (by rfl) hSa ?_
        try simp only [Act.put, List.setIfInBounds_toArray, List.set_cons_zero, List.set_cons_succ]
        refine wpAnyS_skip (i := 15) rfl (by kernel_rfl) (fun _ _ _ h => h) (by rfl) hSa ?_
        try simp only [Act.put, List.setIfInBounds_toArray, List.set_cons_zero, List.set_cons_succ]
        refine wpAnyS_take (i := 16) (v := ?_) rfl (by kernel_rfl) (fun _ _ _ h => h) (by rfl) hSa ?_ ?_
        rotate_left
        · intro w' hS'
          (try dsimp only at hS')
          go_simp <;> with_reducible rfl
        try simp only [Act.put, List.setIfInBounds_toArray, List.set_cons_zero, List.set_cons_succ]
        refine wpAnyS_last (i := 17) rfl (by kernel_rfl) (by decide) (by kernel_rfl) (by rfl) fun K hK => ?_
        go_simp
        refine hK.out _ _ ?_
        clear hK K hj0
        have e0d := k5 _ hSa
        go_wp2_with fail
        refine (of_any gb bm c M x _ (HGr.out.fr0 hSa.fr) HXW.out).mono ?_
        rintro e w5 ⟨rfl, hf5⟩
        rw [HGV.out, show (List.map Prod.fst M).contains x = true from HKX.out]
        have hk5 : KeptF wo w5 := hSa.next hf5
        clear e0 e0d hSa hf5
        have hk6 : KeptF wo (w5.alloc (.cells #[.int .i64 m1, .bool m2, .int .i64 m3, .int .i64 m4] 27)) := Fr.alloc hk5 _
        have hk7 : KeptF wo ((w5.alloc (.cells #[.int .i64 m1, .bool m2, .int .i64 m3, .int .i64 m4] 27)).alloc (.cells #[.int .i64 x, .int .i64 m1, .bool m2, .int .i64 m3, .int .i64 m4] 67)) := Fr.alloc hk6 _
        have hq := HRr.out.root.fr hk6 (fun h => h)
        have z3 := hq.cell 3
        have z4 := k0 _ hk6
        have z5 := k1 _ hk6
        have z6 := k2 _ hk6
        have z7 := k3 _ hk6
        have z8 := k4 _ hk6
        have hbn := (bk_at w5 27 #[.int .i64 m1, .bool m2, .int .i64 m3, .int .i64 m4] _ rfl).alloc (.cells #[.int .i64 x, .int .i64 m1, .bool m2, .int .i64 m3, .int .i64 m4] 67)
        have hbo := bk_at (w5.alloc (.cells #[.int .i64 m1, .bool m2, .int .i64 m3, .int .i64 m4] 27)) 67 #[.int .i64 x, .int .i64 m1, .bool m2, .int .i64 m3, .int .i64 m4] (w5.heap.size + 1) (by simp)
        have hbf := HBr.out.fr hk7 (fun h => h)
        have hne : ¬ (w5.heap.size = fb) := by
          have h1 := HBr.out.lt
          have h2 := Fr.size hk5
          omega
        have hst := Fr.store ((w5.alloc (.cells #[.int .i64 m1, .bool m2, .int .i64 m3, .int .i64 m4] 27)).alloc (.cells #[.int .i64 x, .int .i64 m1, .bool m2, .int .i64 m3, .int .i64 m4] 67)) fb 1 (.int .i64 (f - m3))
        have hbn2 := hbn.fr hst hne
        have hbf2 := hbf.set 1 (.int .i64 (f - m3))
        have n0 := hbn.cell 0
        have n1 := hbn.cell 1
        have n2 := hbn.cell 2
        have n3 := hbn.cell 3
        have o1 := hbo.cell 1
        have o2 := hbo.cell 2
        have o3 := hbo.cell 3
        have o4 := hbo.cell 4
        have f1 := hbf.cell 1
        have f1b := hbf.free 1
        have n32 := hbn2.cell 3
        have f2 := hbf2.cell 2
        have f2b := hbf2.free 2
        simp only [List.getElem?_cons_zero, List.getElem?_cons_succ, List.set_cons_zero, List.set_cons_succ] at z3 n0 n1 n2 n3 o1 o2 o3 o4 f1 n32 f2
        have hwf1 := HWF.out.1
        have hwf2 := HWF.out.2.1
        have HBF := Lib.hid (hbf2.set 2 (.int .i64 (g - m4)))
        have HF9 := Lib.hid ((Hf.out.transS (hk7.fr.of_nil)).transS hst)
        clear hq hbn hbo hbf hbn2 hbf2 hst
        go_wp2_with fail
        go_roundw
        case rel => exact ⟨0 + 1, f - m3, g - m4, by omega, by go_num, HWF.out.2.2.1, HWF.out.2.2.2, HBF.out, HF9.out.transS (Fr.store _ fb 2 _)⟩
        case measure => simp [intOf]; omega
      · obtain ⟨p, hp⟩ : ∃ p : Nat, p + 1 = i := ⟨i - 1, by omega⟩
        have hkp : p < ks.length := by omega
        have hgy := List.getElem?_eq_getElem hkp
        generalize hy : ks[p] = y at hgy
        have hyx := HLT.out p i y x (by omega) hgy HGX.out
        have e1 := HXC.out p y hgy
        have k6 := KeptF.cell e1
        have hw1 : IntKind.i64.wrap ((i : Int) - 1) = (p : Int) := by rw [IntKind.wrap_i64]; omega
        have hp0 : 0 ≤ (p : Int) := by omega
        have hpM : (p : Int) < (M.length : Int) := by omega
        have hi1 : 0 < i := by omega
        have hi2 : (0 : Int) < (i : Int) := by omega
        have hdg : decide (x ≤ y) = false := decide_eq_false (by omega)
        have HP := Lib.hid hp
        clear hi0 hgy hy hyx e1 hp hkp
        go_wp2_with fail
        refine wp_region_sink 17 (KeptF wo) (by kernel_rfl) ?_
        have hSa : KeptF wo wo.drew := KeptF.start _
        refine wpAnyS_take (i := 0) (v := ?_) rfl (by kernel_rfl) (fun _ _ _ h => h) (by rfl) hSa ?_ ?_
        rotate_left
        · intro w' hS'
          (try dsimp only at hS')
          go_simp <;> with_reducible rfl
        try simp only [Act.put, List.setIfInBounds_toArray, List.set_cons_zero, List.set_cons_succ]
        refine wpAnyS_take (i := 1) (v := ?_) rfl (by kernel_rfl) (fun _ _ _ h => h) (by rfl) hSa ?_ ?_
        rotate_left
        · intro w' hS'
          (try dsimp only at hS')
          go_simp <;> with_reducible rfl
        try simp only [Act.put, List.setIfInBounds_toArray, List.set_cons_zero, List.set_cons_succ]
        refine wpAnyS_take (i := 2) (v := ?_) rfl (by kernel_rfl) (fun _ _ _ h => h) (by rfl) hSa ?_ ?_
        rotate_left
        · intro w' hS'
          (try dsimp only at hS')
          go_simp <;> with_reducible rfl
        try simp only [Act.put, List.setIfInBounds_toArray, List.set_cons_zero, List.set_cons_succ]
        refine wpAnyS_take (i := 3) (v := ?_) rfl (by kernel_rfl) (fun _ _ _ h => h) (by rfl) hSa ?_ ?_
        rotate_left
        · intro w' hS'
          (try dsimp only at hS')
          go_simp <;> with_reducible rfl
        try simp only [Act.put, List.setIfInBounds_toArray, List.set_cons_zero, List.set_cons_succ]
        refine wpAnyS_take (i := 4) (v := ?_) rfl (by kernel_rfl) (fun _ _ _ h => h) (by rfl) hSa ?_ ?_
        rotate_left
        · intro w' hS'
          (try dsimp only at hS')
          go_simp <;> with_reducible rfl
        try simp only [Act.put, List.setIfInBounds_toArray, List.set_cons_zero, List.set_cons_succ]
        refine wpAnyS_take (i := 5) (v := ?_) rfl (by kernel_rfl) (fun _ _ _ h => h) (by rfl) hSa ?_ ?_
        rotate_left
        · intro w' hS'
          (try dsimp only at hS')
          go_simp <;> with_reducible rfl
        try simp only [Act.put, List.setIfInBounds_toArray, List.set_cons_zero, List.set_cons_succ]
        refine wpAnyS_take (i := 6) (v := ?_) rfl (by kernel_rfl) (fun _ _ _ h => h) (by rfl) hSa ?_ ?_
        rotate_left
        · intro w' hS'
          (try dsimp only at hS')
          go_simp <;> with_reducible rfl
        try simp only [Act.put, List.setIfInBounds_toArray, List.set_cons_zero, List.set_cons_succ]
        refine wpAnyS_take (i := 7) (v := ?_) rfl (by kernel_rfl) (fun _ _ _ h => h) (by rfl) hSa ?_ ?_
        rotate_left
        · intro w' hS'
          (try dsimp only at hS')
          go_simp <;> with_reducible rfl
        try simp only [Act.put, List.setIfInBounds_toArray, List.set_cons_zero, List.set_cons_succ]
        refine wpAnyS_take (i := 8) (v := ?_) rfl (by kernel_rfl) (fun _ _ _ h => h) (by rfl) hSa ?_ ?_
        rotate_left
        · intro w' hS'
          (try dsimp only at hS')
          go_simp <;> with_reducible rfl
        try simp only [Act.put, List.setIfInBounds_toArray, List.set_cons_zero, List.set_cons_succ]
        refine wpAnyS_take (i := 9) (v := ?_) rfl (by kernel_rfl) (fun _ _ _ h => h) (by rfl) hSa ?_ ?_
        rotate_left
        · intro w' hS'
          (try dsimp only at hS')
          go_simp <;> with_reducible rfl
        try simp only [Act.put, List.setIfInBounds_toArray, List.set_cons_zero, List.set_cons_succ]
        refine wpAnyS_take (i := 10) (v := ?_) rfl (by kernel_rfl) (fun _ _ _ h => h) (by rfl) hSa ?_ ?_
        rotate_left
        · intro w' hS'
          have ck6 := k6 _ hS'
          go_simp <;> with_reducible rfl
        try simp only [Act.put, List.setIfInBounds_toArray, List.set_cons_zero, List.set_cons_succ]
        refine wpAnyS_take (i := 11) (v := ?_) rfl (by kernel_rfl) (fun _ _ _ h => h) (by rfl) hSa ?_ ?_
        rotate_left
        · intro w' hS'
          (try dsimp only at hS')
          go_simp <;> with_reducible rfl
        try simp only [Act.put, List.setIfInBounds_toArray, List.set_cons_zero, List.set_cons_succ]
        refine wpAnyS_take (i := 12) (v := ?_) rfl (by kernel_rfl) (fun _ _ _ h => h) (by rfl) hSa ?_ ?_
        rotate_left
        · intro w' hS'
          (try dsimp only at hS')
          go_simp <;> with_reducible rfl
        try simp only [Act.put, List.setIfInBounds_toArray, List.set_cons_zero, List.set_cons_succ]
        refine wpAnyS_take (i := 13) (v := ?_) rfl (by kernel_rfl) (fun _ _ _ h => h) (by rfl) hSa ?_ ?_
        rotate_left
        · intro w' hS'
          (try dsimp only at hS')
          go_simp <;> with_reducible rfl
        try simp only [Act.put, List.setIfInBounds_toArray, List.set_cons_zero, List.set_cons_succ]
        refine wpAnyS_take (i := 14) (v := ?_) rfl (by kernel_rfl) (fun _ _ _ h => h) (by rfl) hSa ?_ ?_
        rotate_left
        · intro w' hS'
          have ck5 := k5 _ hS'
          go_simp <;> with_reducible rfl
        try simp only [Act.put, List.setIfInBounds_toArray, List.set_cons_zero, List.set_cons_succ]
        refine wpAnyS_take (i := 15) (v := ?_) rfl (by kernel_rfl) (fun _ _ _ h => h) (by rfl) hSa ?_ ?_
        rotate_left
        · intro w' hS'
          (try dsimp only at hS')
          go_simp <;> with_reducible rfl
        try simp only [Act.put, List.setIfInBounds_toArray, List.set_cons_zero, List.set_cons_succ]
        refine wpAnyS_take (i := 16) (v := ?_) rfl (by kernel_rfl) (fun _ _ _ h => h) (by rfl) hSa ?_ ?_
        rotate_left
        · intro w' hS'
          (try dsimp only at hS')
          go_simp <;> with_reducible rfl
        try simp only [Act.put, List.setIfInBounds_toArray, List.set_cons_zero, List.set_cons_succ]
        refine wpAnyS_last (i := 17) rfl (by kernel_rfl) (by decide) (by kernel_rfl) (by rfl) fun K hK => ?_
        go_simp
        refine hK.out _ _ ?_
        clear hK K hj0 hw1 hp0 hpM hi1 hi2 hdg k6
        have e0d := k5 _ hSa
        go_wp2_with fail
        refine (of_any gb bm c M x _ (HGr.out.fr0 hSa.fr) HXW.out).mono ?_
        rintro e w5 ⟨rfl, hf5⟩
        rw [HGV.out, show (List.map Prod.fst M).contains x = true from HKX.out]
        have hk5 : KeptF wo w5 := hSa.next hf5
        clear e0 e0d hSa hf5
        have hk6 : KeptF wo (w5.alloc (.cells #[.int .i64 m1, .bool m2, .int .i64 m3, .int .i64 m4] 27)) := Fr.alloc hk5 _
        have hk7 : KeptF wo ((w5.alloc (.cells #[.int .i64 m1, .bool m2, .int .i64 m3, .int .i64 m4] 27)).alloc (.cells #[.int .i64 x, .int .i64 m1, .bool m2, .int .i64 m3, .int .i64 m4] 67)) := Fr.alloc hk6 _
        have hq := HRr.out.root.fr hk6 (fun h => h)
        have z3 := hq.cell 3
        have z4 := k0 _ hk6
        have z5 := k1 _ hk6
        have z6 := k2 _ hk6
        have z7 := k3 _ hk6
        have z8 := k4 _ hk6
        have hbn := (bk_at w5 27 #[.int .i64 m1, .bool m2, .int .i64 m3, .int .i64 m4] _ rfl).alloc (.cells #[.int .i64 x, .int .i64 m1, .bool m2, .int .i64 m3, .int .i64 m4] 67)
        have hbo := bk_at (w5.alloc (.cells #[.int .i64 m1, .bool m2, .int .i64 m3, .int .i64 m4] 27)) 67 #[.int .i64 x, .int .i64 m1, .bool m2, .int .i64 m3, .int .i64 m4] (w5.heap.size + 1) (by simp)
        have hbf := HBr.out.fr hk7 (fun h => h)
        have hne : ¬ (w5.heap.size = fb) := by
          have h1 := HBr.out.lt
          have h2 := Fr.size hk5
          omega
        have hst := Fr.store ((w5.alloc (.cells #[.int .i64 m1, .bool m2, .int .i64 m3, .int .i64 m4] 27)).alloc (.cells #[.int .i64 x, .int .i64 m1, .bool m2, .int .i64 m3, .int .i64 m4] 67)) fb 1 (.int .i64 (f - m3))
        have hbn2 := hbn.fr hst hne
        have hbf2 := hbf.set 1 (.int .i64 (f - m3))
        have n0 := hbn.cell 0
        have n1 := hbn.cell 1
        have n2 := hbn.cell 2
        have n3 := hbn.cell 3
        have o1 := hbo.cell 1
        have o2 := hbo.cell 2
        have o3 := hbo.cell 3
        have o4 := hbo.cell 4
        have f1 := hbf.cell 1
        have f1b := hbf.free 1
        have n32 := hbn2.cell 3
        have f2 := hbf2.cell 2
        have f2b := hbf2.free 2
        simp only [List.getElem?_cons_zero, List.getElem?_cons_succ, List.set_cons_zero, List.set_cons_succ] at z3 n0 n1 n2 n3 o1 o2 o3 o4 f1 n32 f2
        have hwf1 := HWF.out.1
        have hwf2 := HWF.out.2.1
        have HBF := Lib.hid (hbf2.set 2 (.int .i64 (g - m4)))
        have HF9 := Lib.hid ((Hf.out.transS (hk7.fr.of_nil)).transS hst)
        clear hq hbn hbo hbf hbn2 hbf2 hst
        go_wp2_with fail
        go_roundw
        case rel => exact ⟨i + 1, f - m3, g - m4, by omega, by go_num, HWF.out.2.2.1, HWF.out.2.2.2, HBF.out, HF9.out.transS (Fr.store _ fb 2 _)⟩
        case measure => simp [intOf]; omega
    · obtain rfl : i = M.length := by omega
      have HRM : Hid (roomOf c M = ⟨nn, f, g⟩) := by
        have : roomOf c M = ⟨nn, f, g⟩ := by
          have h1 := HFF.out
          have h2 := HGG.out
          rw [← HKL.out, List.take_length, HSA.out] at h1 h2
          rw [HI.out.room, h1, h2, HNN.out]
        exact this
      have HVr := Lib.hid (HV2.out.fr Hf.out (fun k hk e => by have := HFB.out.2.2.2.2.1 k hk; omega))
      have q3 := HRr.out.root.cell 3
      simp only [List.getElem?_cons_zero, List.getElem?_cons_succ] at q3
      go_wp2_with fail
      go_loopw [12] (fun vi wr => ∃ (i : Nat) (ks' : List Int), i ≤ M.length ∧ vi = .int .i64 i ∧ ks'.length = M.length ∧ OwnInts wr 2 (.slice va M.length vcap) ks' ∧ Fr wo wr (fun k => (Value.slice va M.length vcap).ownBlock = some k)) (fun vi _ => M.length - (intOf vi).toNat)
      case atStart => exact ⟨0, ks, by omega, rfl, HKL.out, HVr.out, Fr.refl _ _⟩
      case round =>
        clear HVr q3
        obtain ⟨i, ks', hi, rfl, hkl', hov, hf'⟩ := hrel
        have HOV := Lib.hid hov
        have Hf' := Lib.hid hf'
        have HKL' := Lib.hid hkl'
        obtain ⟨wp, rfl⟩ : ∃ wp : World, wp = wr := ⟨_, rfl⟩
        clear hf'
        by_cases hlti : i < M.length
        · obtain ⟨xb, xcap, hxv, _⟩ := hov.form (by omega)
          rw [hkl'] at hxv
          simp only [Value.slice.injEq, true_and] at hxv
          obtain ⟨rfl, rfl⟩ := hxv
          have y0 := HOV.out.cell hkl'.symm i (by omega)
          have y1 := HOV.out.free hkl'.symm i
          have hij : (i : Int) < (M.length : Int) := by omega
          have HST := Lib.hid (HOV.out.set hkl'.symm i (-1))
          clear hov hkl'
          go_wp2_with fail
          go_roundw
          case rel => exact ⟨i + 1, ks'.set i (-1), by omega, by go_num, by rw [List.length_set]; exact HKL'.out, HST.out, Hf'.out.transS ((Fr.store wp xb i _).mono fun k _ e => by have e : k = xb := e; rw [e]; rfl)⟩
          case measure => simp [intOf]; omega
        · obtain rfl : i = M.length := by omega
          have hbp := HBr.out.fr Hf'.out (fun e => by have := HFB.out.2.2.2.2.1 _ e; omega)
          have HGp := Lib.hid (HGr.out.fr Hf'.out (fun e => by have := HVN.out _ e; have := HG.out.1.lt; omega) (fun e => by have := HVN.out _ e; have := HG.out.2.lt; omega))
          have HFp : Hid (Fr w wp Nil) := (HF2.out.trans Hf.out fun j hj e => absurd hj (by have := HFB.out.2.2.2.2.2; omega)).trans Hf'.out fun j hj e => absurd hj (by have := HVN.out _ e; omega)
          have p0 := hbp.cell 0
          have p1 := hbp.cell 1
          have p2 := hbp.cell 2
          simp only [List.getElem?_cons_zero, List.getElem?_cons_succ] at p0 p1 p2
          have k0 := KeptF.cell p0
          have k1 := KeptF.cell p1
          have k2 := KeptF.cell p2
          clear hov hkl' hbp
          go_wp2_with fail
          go_region_held3 (KeptF wp) (first | exact hS5 | exact KeptF.start _ | go_keep)
            (first | (go_at_call 17; have hfx : KeptF wp _ := (by assumption); refine (room_any gb bm c M _ (HGp.out.fr0 hfx.fr) (CapD.wf_of HI.out.caps)).mono ?_; rintro e w7 ⟨rfl, hf7⟩; rw [HRM.out]; have hS5 := hfx.next hf7))
          have HF9 := Lib.hid (HFp.out.trans0 hS5.fr)
          clear hS5 p0 p1 p2 k0 k1 k2
          go_wp2_with fail
          go_ret
          exact ⟨rfl, HF9.out⟩
end Go.Proofs.Ytplebgcgoigigaa
