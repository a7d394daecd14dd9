/-
  The document's log: walk of Clean.
  No condition but sizes.
-/
import Derived.Test.YtjpenaodkfljhaaUgCleanP
import Derived.Test.YtjpenaodkfljhaaRfCopy
import Derived.Test.YtjpenaodkfljhaaQTail
namespace Go.Proofs.Ytjpenaodkfljhaa
open Go Go.RowKit

structure CK (w W : World) (kb cb : Nat) (mo : Int) (kv : Value) (g gk : List DEnt) (M0 M' : List MTab) (N : Nat) : Prop where
  log : DLogG W kb mo kv gk
  sub : ∀ y ∈ gk, y ∈ g
  good : Good M'
  few : Few N M'
  goal : cleanM M' (dmods gk) = M0
  rows : ∃ Sc, RefAt W cb (colsN M') (flatM M') Sc ∧ (∀ k, Sc k → w.heap.size ≤ k) ∧ ∀ k, DHas kb kv gk k → ¬ Sc k
  nk : w.heap.size ≤ kb
  nc : w.heap.size ≤ cb
  nv : ∀ k, kv.ownBlock = some k → w.heap.size ≤ k
  fr : Fr w W Nil
theorem CK.fr0 {w W W' : World} {kb cb : Nat} {mo : Int} {kv : Value} {g gk : List DEnt} {M0 M' : List MTab} {N : Nat} (h : CK w W kb cb mo kv g gk M0 M' N) (hf : Fr W W' Nil) : CK w W' kb cb mo kv g gk M0 M' N := by
  obtain ⟨Sc, r1, r2, r3⟩ := h.rows
  exact ⟨h.log.fr hf fun _ _ h => h, h.sub, h.good, h.few, h.goal, ⟨Sc, r1.fr0 hf, r2, r3⟩, h.nk, h.nc, h.nv, h.fr.trans0 hf⟩
/-- The least one's last is taken back. -/
theorem CK.next {w W W' : World} {kb cb : Nat} {mo : Int} {kv : Value} {g gk : List DEnt} {M0 M' : List MTab} {N : Nat} {who : Int} {e : Ending} {Sc : Nat → Prop} (h : CK w W kb cb mo kv g gk M0 M' N) (hN : N < 1000) (hr2 : ∀ k, Sc k → w.heap.size ≤ k) (hmin : ∀ p ∈ dmods gk, who ≤ p.1) (hin : who ∈ (dmods gk).map Prod.fst)
    (hb : DBackRet kb cb mo kv gk M' Sc who W e W') : e = .returned (.bool true) ∧ ∃ kv' gk' M'', CK w W' kb cb mo kv' g gk' M0 M'' (N + 1) ∧ gk'.length + 1 = gk.length := by
  have hsz := h.fr.size
  rcases hb with ⟨h1, _⟩ | ⟨ds, x, h1, h2, ⟨lv', g', a1, a2, a3, a4, a5, S', b1, b2, b3⟩, hf⟩
  · exact absurd h1 (mem_ofL.2 hin)
  · obtain ⟨q1, q2⟩ := good_undo h.good h.few (by omega) x
    refine ⟨h2, lv', g', undoE M' x, ⟨a1, fun y hy => h.sub y (a5 y hy), q1, q2, ?_, ⟨S', b1, fun k hk => (b2 k hk).elim (hr2 k) fun h => by omega, b3⟩, h.nk, h.nc, fun k hk => by have := a4 k hk; omega, h.fr.trans hf fun k hk hs => ?_⟩, ?_⟩
    · rw [a2, clean_step M' hmin h1]; exact h.goal
    · have := h.nk; have := h.nc
      rcases hs with rfl | rfl <;> omega
    · have := (back_some h1).2
      rw [← a2, dmods_len, dmods_len] at this
      exact this
def DCleanRet (M : List MTab) (L : List (Int × Ent)) (w : World) (e : Ending) (w' : World) : Prop :=
  ∃ cb S', e = .returned (rptr cb) ∧ RefAt w' cb (colsN (cleanM M L)) (flatM (cleanM M L)) S' ∧ (∀ k, S' k → w.heap.size ≤ k) ∧ Fr w w' Nil
theorem ck_start {w w1 w2 w3 : World} {kb cb lb : Nat} {most mo : Int} {lv : Value} {g : List DEnt} {M : List MTab} {N : Nat} {Sc : Nat → Prop} {a : Option Addr} {c : Nat} (h : DLogG w lb most lv g) (hg : Good M) (hf : Few N M)
    (hf1 : Fr w w1 Nil) (hc : RefAt w1 cb (colsN M) (flatM M) Sc) (hcn : ∀ k, Sc k → w.heap.size ≤ k) (hk : DLogG w2 kb mo (.slice none 0 0) []) (hkb : kb = w1.heap.size) (hf2 : Fr w1 w2 Nil) (hs2 : w2.heap.size = kb + 1)
    (hf3 : Fr w2 w3 Nil) (ho : w3.ownsRow 0 133 5 (.slice a g.length c) g.length (dvals g)) (hn : ∀ k, (Value.slice a g.length c).ownBlock = some k → w2.heap.size ≤ k) :
    CK w (w3.setCell ⟨kb, 1, none⟩ (.slice a g.length c)) kb cb mo (.slice a g.length c) g g (cleanM M (dmods g)) M N := by
  have hz1 := hf1.size
  have hf13 : Fr w w3 Nil := (hf1.trans0 hf2).trans0 hf3
  have hsc := RefAt.lt hc
  obtain ⟨s1, s2⟩ := hk.store (hf3.of_nil) ho (fun k hk2 => by have := hn k hk2; omega) (fun y hy => ⟨(h.ok y hy).fr hf13 fun _ _ h => h, fun k hk2 => ⟨by have := (h.ok y hy).own.lt k hk2; omega, fun hr => by have := hn k hr; have := (h.ok y hy).own.lt k hk2; omega⟩⟩)
  have hst : Fr w3 (w3.setCell ⟨kb, 1, none⟩ (.slice a g.length c)) (fun k => k = kb) := Fr.store w3 kb 1 _
  refine ⟨s1, fun y hy => hy, hg, hf, rfl, ⟨Sc, ((hc.fr0 hf2).fr0 hf3).fr hst fun k hk e => by have := hsc k hk; omega, hcn, fun k hk hs => ?_⟩, by omega, ?_, fun k hk2 => by have := hn k hk2; omega, hf13.trans hst fun k hk e => by omega⟩
  · rcases hk with rfl | hk | ⟨y, hy, hk⟩
    · have := hsc _ hs; omega
    · have := hn k hk; have := hsc k hs; omega
    · have := (h.ok y hy).own.lt k hk; have := hcn k hs; omega
  · exact hcn _ (ref_in hc)
set_option maxRecDepth 100000 in
set_option maxHeartbeats 4000000 in
theorem dclean_any {lb qb N : Nat} {most : Int} {lv : Value} {g : List DEnt} {M : List MTab} {Sq : Nat → Prop} (w : World) (h : DLogG w lb most lv g) (hr : RefAt w qb (colsN M) (flatM M) Sq) (hg : Good M) (hf : Few N M) (hN : N + g.length < 900) :
    Calls Try.prog 75 #[rptr lb, rptr qb] w (DCleanRet M (dmods g) w) := by
  obtain ⟨a, c, rfl, hc⟩ := h.shape
  have HG := Lib.hid h
  have HR := Lib.hid hr
  have HQ := Lib.hid (qok_flat hg hf (by omega))
  have HONE : Hid (∀ u ∈ dvals g, u.oneCell' = true) := dvals_one fun r hm => (h.ok r hm).ints.one
  clear h hr
  go_enter Try.func75, Try.ntmps75
  go_wp2_with fail
  refine (refcopy_any w HR.out HQ.out).mono ?_
  rintro e w1 ⟨cb, Sc, rfl, hcr, hcn, hf1⟩
  have HCR := Lib.hid hcr
  have HCN := Lib.hid hcn
  have HF1 := Lib.hid hf1
  have q0 := (HG.out.root.fr hf1 fun h => h).cell 0
  simp only [List.getElem?_cons_zero] at q0
  clear hcr hcn hf1
  go_wp2_with fail
  refine (dnew_any most _).mono ?_
  rintro e w2 ⟨kb, rfl, hk, hkb, hs2, hf2⟩
  have HK := Lib.hid hk
  have HKB := Lib.hid hkb
  have HS2 := Lib.hid hs2
  have HF2 := Lib.hid hf2
  have q1 := (HG.out.root.fr (HF1.out.trans0 hf2) fun h => h).cell 1
  have q2 := hk.root.cell 1
  simp only [List.getElem?_cons_zero, List.getElem?_cons_succ] at q1 q2
  clear hk hkb hs2 hf2 q0
  have k1 := KeptF.cell q1
  have k2 := KeptF.cell q2
  go_wp2_with fail
  refine wp_region_sink 12 (KeptF w2) (by kernel_rfl) ?_
  have hSa : KeptF w2 w2.drew := KeptF.start _
  refine wpAnyS_take (i := 0) (v := ?_) rfl (by kernel_rfl) (fun _ _ _ h => h) (by rfl) hSa ?_ ?_
  rotate_left
  · intro w' hS'
    (try dsimp only at hS')
    go_simp <;> with_reducible rfl
  try simp only [Act.put, List.setIfInBounds_toArray, List.set_cons_zero, List.set_cons_succ]
  refine wpAnyS_take (i := 1) (v := ?_) rfl (by kernel_rfl) (fun _ _ _ h => h) (by rfl) hSa ?_ ?_
  rotate_left
  · intro w' hS'
    (try dsimp only at hS')
    go_simp <;> with_reducible rfl
  try simp only [Act.put, List.setIfInBounds_toArray, List.set_cons_zero, List.set_cons_succ]
  refine wpAnyS_take (i := 2) (v := ?_) rfl (by kernel_rfl) (fun _ _ _ h => h) (by rfl) hSa ?_ ?_
  rotate_left
  · intro w' hS'
    (try dsimp only at hS')
    go_simp <;> with_reducible rfl
  try simp only [Act.put, List.setIfInBounds_toArray, List.set_cons_zero, List.set_cons_succ]
  refine wpAnyS_take (i := 3) (v := ?_) rfl (by kernel_rfl) (fun _ _ _ h => h) (by rfl) hSa ?_ ?_
  rotate_left
  · intro w' hS'
    (try dsimp only at hS')
    go_simp <;> with_reducible rfl
  try simp only [Act.put, List.setIfInBounds_toArray, List.set_cons_zero, List.set_cons_succ]
  refine wpAnyS_take (i := 4) (v := ?_) rfl (by kernel_rfl) (fun _ _ _ h => h) (by rfl) hSa ?_ ?_
  rotate_left
  · intro w' hS'
    have ck2 := k2 _ hS'
    go_simp <;> with_reducible rfl
  try simp only [Act.put, List.setIfInBounds_toArray, List.set_cons_zero, List.set_cons_succ]
  refine wpAnyS_take (i := 5) (v := ?_) rfl (by kernel_rfl) (fun _ _ _ h => h) (by rfl) hSa ?_ ?_
  rotate_left
  · intro w' hS'
    (try dsimp only at hS')
    go_simp <;> with_reducible rfl
  try simp only [Act.put, List.setIfInBounds_toArray, List.set_cons_zero, List.set_cons_succ]
  refine wpAnyS_take (i := 6) (v := ?_) rfl (by kernel_rfl) (fun _ _ _ h => h) (by rfl) hSa ?_ ?_
  rotate_left
  · intro w' hS'
    (try dsimp only at hS')
    go_simp <;> with_reducible rfl
  try simp only [Act.put, List.setIfInBounds_toArray, List.set_cons_zero, List.set_cons_succ]
  refine wpAnyS_take (i := 7) (v := ?_) rfl (by kernel_rfl) (fun _ _ _ h => h) (by rfl) hSa ?_ ?_
  rotate_left
  · intro w' hS'
    (try dsimp only at hS')
    go_simp <;> with_reducible rfl
  try simp only [Act.put, List.setIfInBounds_toArray, List.set_cons_zero, List.set_cons_succ]
  refine wpAnyS_take (i := 8) (v := ?_) rfl (by kernel_rfl) (fun _ _ _ h => h) (by rfl) hSa ?_ ?_
  rotate_left
  · intro w' hS'
    have ck1 := k1 _ hS'
    go_simp <;> with_reducible rfl
  try simp only [Act.put, List.setIfInBounds_toArray, List.set_cons_zero, List.set_cons_succ]
  refine wpAnyS_one (i := 9) rfl (by kernel_rfl) (by decide) (by rfl) fun K hK => ?_
  refine wp_app _ _ _ _ (by rfl) slD (.slice none 0 0) (by rfl) (World.ownsRow_nil _ _ _ _) (.slice a g.length c) (by rfl) ((SlAt.of_own (HG.out.own)).1.fr0 ((HF1.out.trans0 HF2.out).trans0 hSa.fr)) HONE.out (by omega) ?_
  intro a3 c3 w3 ho3 hg3 hat3
  rw [Nat.zero_add] at ho3 hat3 ⊢
  have hS3 : KeptF w2 w3 := hSa.next (Fr.app0 (Fr.refl _ Nil) hg3)
  refine hK.out _ _ hS3 ?_
  clear hK K
  simp only [Act.put, List.setIfInBounds_toArray, List.set_cons_zero, List.set_cons_succ]
  refine wpAnyS_take (i := 10) (v := ?_) rfl (by kernel_rfl) (fun _ _ _ h => h) (by rfl) hS3 ?_ ?_
  rotate_left
  · intro w' hS'
    (try dsimp only at hS')
    go_simp <;> with_reducible rfl
  try simp only [Act.put, List.setIfInBounds_toArray, List.set_cons_zero, List.set_cons_succ]
  refine wpAnyS_take (i := 11) (v := ?_) rfl (by kernel_rfl) (fun _ _ _ h => h) (by rfl) hS3 ?_ ?_
  rotate_left
  · intro w' hS'
    (try dsimp only at hS')
    go_simp <;> with_reducible rfl
  try simp only [Act.put, List.setIfInBounds_toArray, List.set_cons_zero, List.set_cons_succ]
  have HI := Lib.hid (ck_start HG.out hg hf HF1.out HCR.out HCN.out HK.out HKB.out HF2.out HS2.out hS3.fr ho3 (fresh_of hat3))
  have hB3 := HK.out.root.fr hS3.fr fun h => h
  have y0 := hB3.cell 1
  have y1 := hB3.free 1
  refine wpAnyS_last (i := 12) rfl (by kernel_rfl) (by decide) (by kernel_rfl) (by rfl) fun K hK => ?_
  go_simp
  refine hK.out _ _ ?_
  clear hK K y0 y1 hB3 hS3 hSa hg3 ho3 hat3 k1 k2 q1 q2
  generalize w3.setCell ⟨kb, 1, none⟩ (.slice a3 g.length c3) = w4 at HI
  go_wp2_with fail
  go_loopw [7, 8, 9] (fun vt _ _ wr => ∃ (t : Nat) (kv : Value) (gk : List DEnt) (M' : List MTab), gk.length + t = g.length ∧ vt = .int .i64 t ∧ CK w wr kb cb (max 0 most) kv g gk (cleanM M (dmods g)) M' (N + t)) (fun vt _ _ _ => g.length - (intOf vt).toNat)
  case atStart => exact ⟨0, _, g, M, by omega, rfl, HI.out⟩
  case round =>
    clear HI HK HKB HS2 HF2 HF1 HCN HCR
    obtain ⟨t, kv, gk, M', ht, rfl, hinv⟩ := hrel
    have HI := Lib.hid hinv
    have HTT := Lib.hid ht
    have q1 := hinv.fr.cell (HG.out.root.cell 1) (fun h => h)
    obtain ⟨wo, rfl⟩ : ∃ wo : World, wo = wr := ⟨_, rfl⟩
    clear hinv
    by_cases hlt : t < g.length
    · have htt : (t : Int) < (g.length : Int) := by omega
      obtain ⟨ak, ck, rfl, hck⟩ := HI.out.log.shape
      go_wp2_with fail
      go_loopw [8, 9] (fun vl vi wr' => ∃ (i : Nat) (l : Int), i ≤ gk.length ∧ vi = .int .i64 i ∧ vl = .int .i64 l ∧ LeastIs (dmods gk) i l ∧ Fr wo wr' Nil) (fun _ vi _ => gk.length - (intOf vi).toNat)
      case atStart => exact ⟨0, -1, by omega, rfl, rfl, .inl ⟨rfl, rfl⟩, Fr.refl _ _⟩
      case round =>
        obtain ⟨i, l, hi, rfl, rfl, hle, hfi⟩ := hrel
        have HI2 := Lib.hid (HI.out.fr0 hfi)
        have HFi := Lib.hid hfi
        have z1 := (HI.out.log.root.fr hfi fun h => h).cell 1
        simp only [List.getElem?_cons_zero, List.getElem?_cons_succ] at z1
        have hgl : gk.length ≤ 1000 := by omega
        obtain ⟨wp, rfl⟩ : ∃ wp : World, wp = wr := ⟨_, rfl⟩
        clear hfi
        by_cases hil : i < gk.length
        · have hii : (i : Int) < (gk.length : Int) := by omega
          have hgt := List.getElem?_eq_getElem hil
          generalize gk[i] = x at hgt
          have hmd : (dmods gk)[i]? = some x.mod := by unfold dmods; rw [List.getElem?_map, hgt]; rfl
          rcases hle with ⟨rfl, rfl⟩ | ⟨m, p, rfl, hm, hpm, hall⟩
          · have HL1 := Lib.hid (LeastIs.first hmd)
            clear hgt hmd
            go_wp2_with fail
            go_quiet (fail)
            rename_i nq
            go_wp2_with fail
            go_roundw
            case rel => exact ⟨1, 0, by omega, by go_num, rfl, HL1.out, HFi.out.drewN _⟩
            case measure => simp [intOf]; omega
          · obtain ⟨b, off, cap, hv, p0, _⟩ := HI2.out.log.cells hgt
            simp only [Value.slice.injEq, true_and] at hv
            obtain ⟨rfl, rfl⟩ := hv
            have hml : m < gk.length := by omega
            have hgm := List.getElem?_eq_getElem hml
            generalize gk[m] = y at hgm
            have hpy : p = y.mod := by
              have : (dmods gk)[m]? = some y.mod := by unfold dmods; rw [List.getElem?_map, hgm]; rfl
              rw [hpm] at this; exact Option.some.inj this
            subst hpy
            obtain ⟨b2, off2, cap2, hv, p1, _⟩ := HI2.out.log.cells hgm
            simp only [Value.slice.injEq, Option.some.injEq, Addr.mk.injEq, true_and, and_true] at hv
            obtain ⟨⟨rfl, rfl⟩, rfl⟩ := hv
            have hmi : (m : Int) < (gk.length : Int) := by omega
            by_cases hlt2 : x.who < y.who
            · have HL1 := Lib.hid (LeastIs.less hall hmd hlt2)
              clear hgt hmd hgm hpm hall
              go_wp2_with fail
              go_quiet (fail)
              rename_i nq
              go_wp2_with fail
              go_roundw
              case rel => exact ⟨i + 1, i, by omega, by go_num, rfl, HL1.out, HFi.out.drewN _⟩
              case measure => simp [intOf]; omega
            · have HL1 := Lib.hid (LeastIs.keep hm hpm hall hmd hlt2)
              clear hgt hmd hgm hpm hall
              go_wp2_with fail
              go_quiet (fail)
              rename_i nq
              go_wp2_with fail
              go_roundw
              case rel => exact ⟨i + 1, m, by omega, by go_num, rfl, HL1.out, HFi.out.drewN _⟩
              case measure => simp [intOf]; omega
        · obtain rfl : i = gk.length := by omega
          rcases hle with ⟨h0, _⟩ | ⟨m, p, rfl, hm, hpm, hall⟩
          · omega
          have hgm := List.getElem?_eq_getElem hm
          generalize gk[m] = y at hgm
          have hpy : p = y.mod := by
            have : (dmods gk)[m]? = some y.mod := by unfold dmods; rw [List.getElem?_map, hgm]; rfl
            rw [hpm] at this; exact Option.some.inj this
          subst hpy
          obtain ⟨b, off, cap, hv, p0, _⟩ := HI2.out.log.cells hgm
          simp only [Value.slice.injEq, true_and] at hv
          obtain ⟨rfl, rfl⟩ := hv
          have hmi : (m : Int) < (gk.length : Int) := by omega
          have HMin : Hid (∀ q ∈ dmods gk, y.who ≤ q.1) := fun q hq => by
            obtain ⟨j, hj⟩ := List.getElem?_of_mem hq
            have hjl := (List.getElem?_eq_some_iff.1 hj).1
            rw [dmods_len] at hjl
            exact hall j q hjl hj
          have HIn : Hid (y.who ∈ (dmods gk).map Prod.fst) := List.mem_map.2 ⟨y.mod, List.mem_of_getElem? hpm, rfl⟩
          obtain ⟨Sc2, r1, r2, r3⟩ := HI2.out.rows
          have R1 := Lib.hid r1
          have R2 := Lib.hid r2
          have R3 := Lib.hid r3
          clear hgm hpm hall r1 r2 r3
          go_wp2_with fail
          refine (dback_any y.who _ HI2.out.log R1.out R3.out HI2.out.good HI2.out.few (by omega) (by omega)).mono ?_
          rintro e w7 hb
          obtain ⟨he, kv2, gk2, M2, hck2, hlen2⟩ := HI2.out.next (by omega) R2.out HMin.out HIn.out hb
          subst he
          have HCK := Lib.hid hck2
          have HLN := Lib.hid hlen2
          clear hb hck2 hlen2
          go_wp2_with fail
          go_roundw
          case rel => exact ⟨t + 1, kv2, gk2, M2, by have := HLN.out; omega, by go_num, HCK.out⟩
          case measure => simp [intOf]; omega
    · have hgk : gk = [] := by cases gk with
        | nil => rfl
        | cons x gk => simp at ht; omega
      subst hgk
      have htt : ¬ (t : Int) < (g.length : Int) := by omega
      go_wp2_with fail
      go_ret
      have hgo := HI.out.goal
      rw [show dmods [] = [] from rfl, clean_nil] at hgo
      obtain ⟨Sc2, r1, r2, r3⟩ := HI.out.rows
      rw [hgo] at r1
      exact ⟨cb, Sc2, rfl, r1, r2, HI.out.fr⟩
end Go.Proofs.Ytjpenaodkfljhaa
