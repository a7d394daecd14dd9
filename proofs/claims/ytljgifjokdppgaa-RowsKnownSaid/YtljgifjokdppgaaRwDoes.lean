/-
  Walk of does: a call on the tables and on the document's rows is answered alike.
  No condition but sizes.
-/
import Derived.Test.YtljgifjokdppgaaRfRel2
import Derived.Test.YtljgifjokdppgaaRwInts
import Derived.Test.YtljgifjokdppgaaRwCalls
namespace Go.Proofs.Ytljgifjokdppgaa
open Go Go.RowKit

theorem OwnInts.set {w : World} {e : TypeId} {b n cap : Nat} {xs : List Int} (h : OwnInts w e (.slice (some ⟨b, 0, none⟩) n cap) xs) (hn : n = xs.length) (c : Nat) (x : Int) :
    OwnInts (w.setCell ⟨b, c, none⟩ (.int .i64 x)) e (.slice (some ⟨b, 0, none⟩) n cap) (xs.set c x) := by
  subst hn
  refine ⟨by simp, ?_⟩
  rcases h.2 with ⟨he, _⟩ | ⟨g, cap', cur, he, hb, hg, hc, hm, hs, ht⟩
  · cases he
  · cases he
    refine .inr ⟨b, cap, cur.setIfInBounds c (.int .i64 x), by rw [List.length_set], Nat.zero_le _, ?_, by rw [List.length_set]; exact hc, hm, by simpa using hs, ?_⟩
    · rw [heap_setCell_same w b c _ e _ hg]
    · rw [List.length_set, Array.toList_setIfInBounds, List.take_set, ht, List.map_set]

/-- The tables and the document's rows, that read the same, each in memory of its own. -/
structure Both (w : World) (rb qb : Nat) (M : List MTab) (S T : Nat → Prop) : Prop where
  rws : Rws w rb M S
  ref : RefAt w qb (colsN M) (flatM M) T
  apart : ∀ k, S k → ¬ T k
theorem Both.fr {w w' : World} {rb qb : Nat} {M : List MTab} {S T U : Nat → Prop} (h : Both w rb qb M S T) (hf : Fr w w' U) (h1 : ∀ k, S k → ¬ U k) (h2 : ∀ k, T k → ¬ U k) : Both w' rb qb M S T := ⟨h.rws.fr hf h1, h.ref.fr hf h2, h.apart⟩
theorem Both.fr0 {w w' : World} {rb qb : Nat} {M : List MTab} {S T : Nat → Prop} (h : Both w rb qb M S T) (hf : Fr w w' Nil) : Both w' rb qb M S T := h.fr hf (fun _ _ h => h) fun _ _ h => h
theorem Both.qb {w : World} {rb qb : Nat} {M : List MTab} {S T : Nat → Prop} (h : Both w rb qb M S T) : T qb := by
  obtain ⟨nv, lv, g, h, _⟩ := h.ref
  exact h.inR
/-- They are others, in memory of theirs, or new. -/
def BothUpd (w : World) (rb qb : Nat) (S T : Nat → Prop) (M' : List MTab) (w' : World) : Prop :=
  ∃ S' T', Both w' rb qb M' S' T' ∧ (∀ k, S' k → S k ∨ w.heap.size ≤ k) ∧ (∀ k, T' k → T k ∨ w.heap.size ≤ k) ∧ Fr w w' (fun k => S k ∨ T k)
/-- First the document's, then the tables. -/
theorem Both.upd {w w1 w2 : World} {rb qb : Nat} {M M' : List MTab} {S T : Nat → Prop} (h : Both w rb qb M S T) (hr : RefUpd w qb (colsN M') (flatM M') T w1) (hp : UpdS w1 rb S M' w2) : BothUpd w rb qb S T M' w2 := by
  obtain ⟨S', h1, h2, h3⟩ := hp
  obtain ⟨h4, h5⟩ := hr
  have s1 := h5.size
  have s2 := h3.size
  have hTS : ∀ k, Gr T w w1 k → ¬ S k := by
    intro k hk hs
    rcases hk with hk | hk
    · exact h.apart k hs hk
    · have := h.rws.lt k hs; omega
  refine ⟨S', Gr T w w1, ⟨h1, h4.fr h3 hTS, fun k hk ht => ?_⟩, fun k hk => (h2 k hk).imp id fun h => by omega, fun k hk => hk.imp id fun h => h.1, ?_⟩
  · rcases h2 k hk with hs | hs
    · exact hTS k ht hs
    · rcases ht with ht | ht
      · have := h.ref.lt k ht; omega
      · omega
  · refine (h5.mono fun k _ hk => ?_).transS (h3.mono fun k _ hk => .inl hk)
    have hk' : k = qb := hk
    exact .inr (hk' ▸ h.qb)
theorem BothUpd.fr {w w' : World} {rb qb : Nat} {M : List MTab} {S T : Nat → Prop} (h : BothUpd w rb qb S T M w') : Fr w w' (fun k => S k ∨ T k) := by
  obtain ⟨_, _, _, _, _, h⟩ := h
  exact h
theorem Both.same {w w' : World} {rb qb : Nat} {M : List MTab} {S T : Nat → Prop} (h : Both w rb qb M S T) (hf : Fr w w' Nil) : BothUpd w rb qb S T M w' :=
  ⟨S, T, h.fr0 hf, fun _ h => .inl h, fun _ h => .inl h, hf.of_nil⟩
theorem BothUpd.before {w0 w w' : World} {rb qb : Nat} {M : List MTab} {S T : Nat → Prop} (h : BothUpd w rb qb S T M w') (hf : Fr w0 w Nil) : BothUpd w0 rb qb S T M w' := by
  obtain ⟨S', T', h1, h2, h3, h4⟩ := h
  have := hf.size
  exact ⟨S', T', h1, fun k hk => (h2 k hk).imp id fun h => by omega, fun k hk => (h3 k hk).imp id fun h => by omega, hf.of_nil.transS h4⟩
theorem BothUpd.mine {w0 w w3 w4 w5 : World} {rb qb : Nat} {M : List MTab} {S T : Nat → Prop} {v : Value} (h : BothUpd w rb qb S T M w3) (hv : ∀ k, v.ownBlock = some k → ¬ S k ∧ ¬ T k ∧ k < w.heap.size) (hf : Fr w4 w5 (fun k => v.ownBlock = some k)) (h4 : Fr w3 w4 Nil) (hw : Fr w0 w Nil) (hn : ∀ k, v.ownBlock = some k → w0.heap.size ≤ k) : BothUpd w0 rb qb S T M w5 := by
  obtain ⟨S', T', h1, h2, h3, h5⟩ := h
  have s := hw.size
  have hd : ∀ k, v.ownBlock = some k → ¬ S' k ∧ ¬ T' k := fun k hk => by
    have := hv k hk
    exact ⟨fun hs => (h2 k hs).elim this.1 fun h => by omega, fun hs => (h3 k hs).elim this.2.1 fun h => by omega⟩
  refine ⟨S', T', (h1.fr0 h4).fr hf (fun k hk hu => (hd k hu).1 hk) (fun k hk hu => (hd k hu).2 hk), fun k hk => (h2 k hk).imp id fun h => by omega, fun k hk => (h3 k hk).imp id fun h => by omega, ?_⟩
  refine ((hw.of_nil.transS h5).trans0 h4).trans hf fun k hlt hu => ?_
  have := hn k hu; omega
def mstep (M : List MTab) (c : CallD) : List MTab :=
  if c.kind % 8 < 4 then (mput M c.table c.key c.cols).1 else if c.kind % 8 = 4 then (mset M c.table c.key c.col c.n).1 else if c.kind % 8 = 5 then (mdel M c.table c.key).1 else M
theorem good_step {M : List MTab} {B : Nat} (h : Good M) (hf : Few B M) (hB : B < 1000000) (c : CallD) : Good (mstep M c) ∧ Few (B + 1) (mstep M c) := by
  unfold mstep
  split
  · exact good_put h hf hB _ _ _
  · split
    · exact ⟨(good_set h hf _ _ _ _).1, fun T hT => Nat.le_succ_of_le ((good_set h hf _ _ _ _).2 T hT)⟩
    · split
      · exact ⟨(good_del h hf _ _).1, fun T hT => Nat.le_succ_of_le ((good_del h hf _ _).2 T hT)⟩
      · exact ⟨h, fun T hT => Nat.le_succ_of_le (hf T hT)⟩
theorem cols_step (M : List MTab) (c : CallD) : colsOf (mstep M c) = colsOf M := by
  unfold mstep
  split
  · exact cols_put _ _ _ _
  · split
    · exact cols_set _ _ _ _ _
    · split
      · exact cols_del _ _ _
      · rfl
theorem mput_err (M : List MTab) (t k : Int) (xs : List Int) : (mput M t k xs).2 = 0 ∨ (mput M t k xs).2 = 2 := by unfold mput; split; exact .inr rfl; exact .inl rfl
theorem mset_ways (M : List MTab) (t k c x : Int) : ((mset M t k c x).2.2 = 0 ∧ (mset M t k c x).2.1 = true) ∨ ((mset M t k c x).2.2 = 0 ∧ (mset M t k c x).2.1 = false) ∨ ((mset M t k c x).2.2 = 2 ∧ (mset M t k c x).2.1 = false) := by
  unfold mset
  split
  · split
    · exact .inl ⟨rfl, rfl⟩
    · exact .inr (.inl ⟨rfl, rfl⟩)
  · exact .inr (.inr ⟨rfl, rfl⟩)
theorem mdel_ways (M : List MTab) (t k : Int) : ((mdel M t k).2.2 = 0 ∧ (mdel M t k).2.1 = true) ∨ ((mdel M t k).2.2 = 0 ∧ (mdel M t k).2.1 = false) ∨ ((mdel M t k).2.2 = 2 ∧ (mdel M t k).2.1 = false) := by
  unfold mdel
  split
  · exact .inr (.inr ⟨rfl, rfl⟩)
  · split
    · exact .inl ⟨rfl, rfl⟩
    · exact .inr (.inl ⟨rfl, rfl⟩)

set_option maxRecDepth 100000 in
set_option maxHeartbeats 1000000 in
theorem does_put {rb qb : Nat} {M : List MTab} {S T : Nat → Prop} {B : Nat} (c : CallD) (w : World) (h : Both w rb qb M S T) (hg : Good M) (hfew : Few B M) (hB : B < 1000) (hcv : IntsAt w c.cv c.cols) (hca : 0 < c.cols.length → ∀ k, c.cv.ownBlock = some k → ¬ S k ∧ ¬ T k) (hcl : c.cols.length ≤ 1000000) (hu : 0 ≤ c.kind ∧ c.kind < 256) (hkd : c.kind % 8 = 0 ∨ c.kind % 8 = 1 ∨ c.kind % 8 = 2 ∨ c.kind % 8 = 3) :
    Calls Try.prog 21 #[.pointer (some ⟨rb, 0, none⟩), .pointer (some ⟨qb, 0, none⟩), .agg #[.int .u8 c.kind, .int .i64 c.table, .int .i64 c.key, .int .i64 c.col, .int .i64 c.n, c.cv]] w fun e w' =>
      e = .returned (.bool true) ∧ BothUpd w rb qb S T (mstep M c) w' := by
  obtain ⟨kd, tb, ky, cl, nn, cv, xs⟩ := c
  simp only at hcv hca hcl hu hkd
  obtain ⟨hu0, hu1⟩ := hu
  obtain ⟨av, cc, rfl⟩ := hcv.shape
  have HG := Lib.hid hg
  have HFW := Lib.hid hfew
  have HQ := Lib.hid (qok_flat hg hfew (by omega))
  have hf0 : Fr w (w.alloc (Obj.cells #[Value.int .u8 kd, .int .i64 tb, .int .i64 ky, .int .i64 cl, .int .i64 nn, .slice av xs.length cc] 32)) Nil := (Fr.refl w Nil).alloc _
  have H0 := Lib.hid (h.fr0 hf0)
  have HX0 := Lib.hid (Bk.new w 32 #[Value.int .u8 kd, .int .i64 tb, .int .i64 ky, .int .i64 cl, .int .i64 nn, .slice av xs.length cc])
  have HC0 : Hid (IntsAt (w.alloc (Obj.cells #[Value.int .u8 kd, .int .i64 tb, .int .i64 ky, .int .i64 cl, .int .i64 nn, .slice av xs.length cc] 32)) (.slice av xs.length cc) xs) := hcv.fr hf0 fun _ _ h => h
  have HS : Hid (¬ S w.heap.size ∧ ¬ T w.heap.size) := ⟨fun hk => by have := h.rws.lt _ hk; omega, fun hk => by have := h.ref.lt _ hk; omega⟩
  have HCA := Lib.hid hca
  have HL0 : Hid ((∀ k, S k → k < w.heap.size) ∧ (∀ k, T k → k < w.heap.size)) := ⟨h.rws.lt, h.ref.lt⟩
  have HF0 := Lib.hid hf0
  clear h hg hfew hcv hca hf0
  have HLT : Hid ((∀ k, S k → w.heap.size + 1 ≤ k → False) ∧ (∀ k, T k → w.heap.size + 1 ≤ k → False)) := ⟨fun k hk hl => by have := HL0.out.1 k hk; omega, fun k hk hl => by have := HL0.out.2 k hk; omega⟩
  rcases hkd with hk | hk | hk | hk
  · have HST : Hid (mstep M ⟨kd, tb, ky, cl, nn, .slice av xs.length cc, xs⟩ = (mput M tb ky xs).1) := if_pos (show kd % 8 < 4 by omega)
    have g0 : (kd % 8 == 0) = true := by rw [beq_iff_eq]; exact hk
    clear hk
    rcases mput_err M tb ky xs with herr | herr
    all_goals
      have HERR := Lib.hid herr
      have HMAY : Hid (qmay (colsN M) tb xs = _) := rel_may M tb ky xs
      rw [herr] at HMAY
      clear herr
      go_enter Try.func21, Try.ntmps21
      go_wp2_with (first
        | (at_builtin
           refine wpList_app _ rfl _ _ _ rfl slI (.slice none 0 0) rfl (World.ownsRow_nil _ _ _ _) _ rfl (SlAt.of_ints HC0.out) (ints_one _) (by omega) ?_
           intro a1 c1 w1 ho hg hat
           rw [Nat.zero_add] at ho hat
           have HC1 := Lib.hid (Cloned.of_app rfl ho hg hat)
           have hX1 := HX0.out.fr HC1.out.2.2 (fun h => h)
           have x0 := hX1.cell 0
           have x1 := hX1.cell 1
           have x2 := hX1.cell 2
           have x3 := hX1.cell 3
           have x4 := hX1.cell 4
           have x5 := hX1.cell 5
           clear ho hg hat)
        | fail)
      have H1 := Lib.hid (H0.out.fr0 HC1.out.2.2)
      have HA1 : Hid (∀ k, (Value.slice a1 xs.length c1).ownBlock = some k → ¬ S k ∧ ¬ T k ∧ k < w1.heap.size) := fun k hk => by
        have h1 := HC1.out.2.1 k hk
        simp only [World.size_alloc] at h1
        refine ⟨fun hs => ?_, fun hs => ?_, HC1.out.1.lt k hk⟩
        · have := H0.out.rws.lt k hs; simp only [World.size_alloc] at this
          exact HLT.out.1 k hs h1
        · exact HLT.out.2 k hs h1
      refine (rput_any tb ky _ xs _ H1.out.ref HQ.out (HC0.out.fr HC1.out.2.2 fun _ _ h => h) (fun hx k hk e => (HCA.out hx k hk).2 (e ▸ H1.out.qb)) hcl).mono ?_
      rintro e w2 ⟨he, hu2⟩
      rw [HMAY.out] at he
      subst he
      have hgd := good_put HG.out HFW.out (by omega) tb ky xs
      rw [rel_put HG.out tb ky xs hgd.1, ← colsN_put M tb ky xs] at hu2
      have HU2 := Lib.hid hu2
      have HF2 := Lib.hid hu2.2
      have HF2b : Hid (Fr w1 w2 (fun k => S k ∨ T k)) := HF2.out.mono fun k _ hk => .inr ((show k = qb from hk) ▸ H1.out.qb)
      have hX2 := HX0.out.fr (HC1.out.2.2.of_nil.transS HF2b.out) (fun h => h.elim HS.out.1 HS.out.2)
      have x0 := hX2.cell 0
      have x1 := hX2.cell 1
      have x2 := hX2.cell 2
      clear hu2 hX2
      go_wp2_with fail
      refine (api_put tb ky _ xs (H1.out.rws.fr HF2.out fun k hk e => H1.out.apart k hk ((show k = qb from e) ▸ H1.out.qb)) HG.out (HC1.out.1.at.fr HF2.out fun k hk e => (HA1.out k hk).2.1 ((show k = qb from e) ▸ H1.out.qb)) hcl).mono ?_
      rintro e w3 ⟨he, hp⟩
      rw [HERR.out] at he
      subst he
      have HBU : Hid (BothUpd w1 rb qb S T (mstep M ⟨kd, tb, ky, cl, nn, .slice av xs.length cc, xs⟩) w3) := by
        show BothUpd _ _ _ _ _ _ _
        rw [HST.out]
        exact H1.out.upd HU2.out hp
      have F3 : Hid (Fr w1 w3 (fun k => S k ∨ T k)) := HBU.out.fr
      clear hp hgd x0 x1 x2
      have HX3 := HX0.out.fr (HC1.out.2.2.of_nil.transS F3.out) (fun h => h.elim HS.out.1 HS.out.2)
      have x5 := HX3.cell 5
      have HIN := Lib.hid (HC1.out.1.fr F3.out fun k hk h => h.elim (HA1.out k hk).1 (HA1.out k hk).2.1)
      have HAR := Lib.hid (HC0.out.frN (HC1.out.2.2.of_nil.transS F3.out) fun hx k hk h => h.elim (HCA.out hx k hk).1 (HCA.out hx k hk).2)
      clear HX3
      go_wp2_with fail
      refine (sameInts_any _ _ xs xs _ HIN.out.at HAR.out hcl hcl).mono ?_
      rintro e w4 ⟨he, hf4⟩
      rw [decide_eq_true rfl] at he
      subst he
      have HIN4 := Lib.hid (HIN.out.fr hf4 fun _ _ h => h)
      have HF4 := Lib.hid hf4
      clear hf4 x5
      go_wp2_with fail
      go_loopw [23] (fun vi wr => ∃ (i : Nat) (ys : List Int), i ≤ xs.length ∧ vi = .int .i64 i ∧ ys.length = xs.length ∧ OwnInts wr 2 (.slice a1 ys.length c1) ys ∧ Fr w4 wr (fun k => (Value.slice a1 xs.length c1).ownBlock = some k)) (fun vi _ => xs.length - (intOf vi).toNat)
      case atStart => exact ⟨0, xs, by omega, rfl, rfl, HIN4.out, Fr.refl _ _⟩
      case round =>
        obtain ⟨i, ys, hi, rfl, hyl, hown, hfr⟩ := hrel
        have Hyl := Lib.hid hyl
        have Hown := Lib.hid hown
        have Hfr := Lib.hid hfr
        clear hyl hown hfr
        by_cases hlt : i < xs.length
        · have hly : i < ys.length := by have := Hyl.out; omega
          obtain ⟨b, cap2, hv, _⟩ := Hown.out.form (by omega)
          simp only [Value.slice.injEq, true_and] at hv
          obtain ⟨rfl, rfl⟩ := hv
          have p0 := Hown.out.cell rfl i hly
          have p1 := Hown.out.free rfl i
          generalize ys.getD i 0 = y at p0
          have hiI : (i : Int) < (xs.length : Int) := by omega
          go_wp2_with fail
          go_roundw
          case rel =>
            refine ⟨i + 1, ys.set i (wrap64 (y + 1)), by omega, by go_num, by rw [List.length_set]; exact Hyl.out, ?_, Hfr.out.setCell (p := ⟨b, i, none⟩) (fun _ => rfl) _⟩
            have := Hown.out.set rfl i (wrap64 (y + 1))
            rw [List.length_set]
            exact this
          case measure => simp [intOf]; omega
        · go_wp2_with fail
          go_ret
          refine ⟨rfl, ?_⟩
          exact HBU.out.mine HA1.out Hfr.out HF4.out (HF0.out.trans0 HC1.out.2.2) (fun k hk => by have h1 := HC1.out.2.1 k hk; simp only [World.size_alloc] at h1; omega)
  · have HST : Hid (mstep M ⟨kd, tb, ky, cl, nn, .slice av xs.length cc, xs⟩ = (mput M tb ky xs).1) := if_pos (show kd % 8 < 4 by omega)
    have g0 : (kd % 8 == 0) = false := by rw [beq_eq_false_iff_ne]; omega
    have g1 : (kd % 8 == 1) = true := by rw [beq_iff_eq]; exact hk
    clear hk
    rcases mput_err M tb ky xs with herr | herr
    all_goals
      have HERR := Lib.hid herr
      have HMAY : Hid (qmay (colsN M) tb xs = _) := rel_may M tb ky xs
      rw [herr] at HMAY
      clear herr
      go_enter Try.func21, Try.ntmps21
      go_wp2_with (first
        | (at_builtin
           refine wpList_app _ rfl _ _ _ rfl slI (.slice none 0 0) rfl (World.ownsRow_nil _ _ _ _) _ rfl (SlAt.of_ints HC0.out) (ints_one _) (by omega) ?_
           intro a1 c1 w1 ho hg hat
           rw [Nat.zero_add] at ho hat
           have HC1 := Lib.hid (Cloned.of_app rfl ho hg hat)
           have hX1 := HX0.out.fr HC1.out.2.2 (fun h => h)
           have x0 := hX1.cell 0
           have x1 := hX1.cell 1
           have x2 := hX1.cell 2
           have x3 := hX1.cell 3
           have x4 := hX1.cell 4
           have x5 := hX1.cell 5
           clear ho hg hat)
        | fail)
      have H1 := Lib.hid (H0.out.fr0 HC1.out.2.2)
      have HA1 : Hid (∀ k, (Value.slice a1 xs.length c1).ownBlock = some k → ¬ S k ∧ ¬ T k ∧ k < w1.heap.size) := fun k hk => by
        have h1 := HC1.out.2.1 k hk
        simp only [World.size_alloc] at h1
        refine ⟨fun hs => ?_, fun hs => ?_, HC1.out.1.lt k hk⟩
        · have := H0.out.rws.lt k hs; simp only [World.size_alloc] at this
          exact HLT.out.1 k hs h1
        · exact HLT.out.2 k hs h1
      refine (rput_any tb ky _ xs _ H1.out.ref HQ.out (HC0.out.fr HC1.out.2.2 fun _ _ h => h) (fun hx k hk e => (HCA.out hx k hk).2 (e ▸ H1.out.qb)) hcl).mono ?_
      rintro e w2 ⟨he, hu2⟩
      rw [HMAY.out] at he
      subst he
      have hgd := good_put HG.out HFW.out (by omega) tb ky xs
      rw [rel_put HG.out tb ky xs hgd.1, ← colsN_put M tb ky xs] at hu2
      have HU2 := Lib.hid hu2
      have HF2 := Lib.hid hu2.2
      have HF2b : Hid (Fr w1 w2 (fun k => S k ∨ T k)) := HF2.out.mono fun k _ hk => .inr ((show k = qb from hk) ▸ H1.out.qb)
      have hX2 := HX0.out.fr (HC1.out.2.2.of_nil.transS HF2b.out) (fun h => h.elim HS.out.1 HS.out.2)
      have x0 := hX2.cell 0
      have x1 := hX2.cell 1
      have x2 := hX2.cell 2
      clear hu2 hX2
      go_wp2_with fail
      refine (api_put tb ky _ xs (H1.out.rws.fr HF2.out fun k hk e => H1.out.apart k hk ((show k = qb from e) ▸ H1.out.qb)) HG.out (HC1.out.1.at.fr HF2.out fun k hk e => (HA1.out k hk).2.1 ((show k = qb from e) ▸ H1.out.qb)) hcl).mono ?_
      rintro e w3 ⟨he, hp⟩
      rw [HERR.out] at he
      subst he
      have HBU : Hid (BothUpd w1 rb qb S T (mstep M ⟨kd, tb, ky, cl, nn, .slice av xs.length cc, xs⟩) w3) := by
        show BothUpd _ _ _ _ _ _ _
        rw [HST.out]
        exact H1.out.upd HU2.out hp
      have F3 : Hid (Fr w1 w3 (fun k => S k ∨ T k)) := HBU.out.fr
      clear hp hgd x0 x1 x2
      have HX3 := HX0.out.fr (HC1.out.2.2.of_nil.transS F3.out) (fun h => h.elim HS.out.1 HS.out.2)
      have x5 := HX3.cell 5
      have HIN := Lib.hid (HC1.out.1.fr F3.out fun k hk h => h.elim (HA1.out k hk).1 (HA1.out k hk).2.1)
      have HAR := Lib.hid (HC0.out.frN (HC1.out.2.2.of_nil.transS F3.out) fun hx k hk h => h.elim (HCA.out hx k hk).1 (HCA.out hx k hk).2)
      clear HX3
      go_wp2_with fail
      refine (sameInts_any _ _ xs xs _ HIN.out.at HAR.out hcl hcl).mono ?_
      rintro e w4 ⟨he, hf4⟩
      rw [decide_eq_true rfl] at he
      subst he
      have HIN4 := Lib.hid (HIN.out.fr hf4 fun _ _ h => h)
      have HF4 := Lib.hid hf4
      clear hf4 x5
      go_wp2_with fail
      go_loopw [23] (fun vi wr => ∃ (i : Nat) (ys : List Int), i ≤ xs.length ∧ vi = .int .i64 i ∧ ys.length = xs.length ∧ OwnInts wr 2 (.slice a1 ys.length c1) ys ∧ Fr w4 wr (fun k => (Value.slice a1 xs.length c1).ownBlock = some k)) (fun vi _ => xs.length - (intOf vi).toNat)
      case atStart => exact ⟨0, xs, by omega, rfl, rfl, HIN4.out, Fr.refl _ _⟩
      case round =>
        obtain ⟨i, ys, hi, rfl, hyl, hown, hfr⟩ := hrel
        have Hyl := Lib.hid hyl
        have Hown := Lib.hid hown
        have Hfr := Lib.hid hfr
        clear hyl hown hfr
        by_cases hlt : i < xs.length
        · have hly : i < ys.length := by have := Hyl.out; omega
          obtain ⟨b, cap2, hv, _⟩ := Hown.out.form (by omega)
          simp only [Value.slice.injEq, true_and] at hv
          obtain ⟨rfl, rfl⟩ := hv
          have p0 := Hown.out.cell rfl i hly
          have p1 := Hown.out.free rfl i
          generalize ys.getD i 0 = y at p0
          have hiI : (i : Int) < (xs.length : Int) := by omega
          go_wp2_with fail
          go_roundw
          case rel =>
            refine ⟨i + 1, ys.set i (wrap64 (y + 1)), by omega, by go_num, by rw [List.length_set]; exact Hyl.out, ?_, Hfr.out.setCell (p := ⟨b, i, none⟩) (fun _ => rfl) _⟩
            have := Hown.out.set rfl i (wrap64 (y + 1))
            rw [List.length_set]
            exact this
          case measure => simp [intOf]; omega
        · go_wp2_with fail
          go_ret
          refine ⟨rfl, ?_⟩
          exact HBU.out.mine HA1.out Hfr.out HF4.out (HF0.out.trans0 HC1.out.2.2) (fun k hk => by have h1 := HC1.out.2.1 k hk; simp only [World.size_alloc] at h1; omega)
  · have HST : Hid (mstep M ⟨kd, tb, ky, cl, nn, .slice av xs.length cc, xs⟩ = (mput M tb ky xs).1) := if_pos (show kd % 8 < 4 by omega)
    have g0 : (kd % 8 == 0) = false := by rw [beq_eq_false_iff_ne]; omega
    have g1 : (kd % 8 == 1) = false := by rw [beq_eq_false_iff_ne]; omega
    have g2 : (kd % 8 == 2) = true := by rw [beq_iff_eq]; exact hk
    clear hk
    rcases mput_err M tb ky xs with herr | herr
    all_goals
      have HERR := Lib.hid herr
      have HMAY : Hid (qmay (colsN M) tb xs = _) := rel_may M tb ky xs
      rw [herr] at HMAY
      clear herr
      go_enter Try.func21, Try.ntmps21
      go_wp2_with (first
        | (at_builtin
           refine wpList_app _ rfl _ _ _ rfl slI (.slice none 0 0) rfl (World.ownsRow_nil _ _ _ _) _ rfl (SlAt.of_ints HC0.out) (ints_one _) (by omega) ?_
           intro a1 c1 w1 ho hg hat
           rw [Nat.zero_add] at ho hat
           have HC1 := Lib.hid (Cloned.of_app rfl ho hg hat)
           have hX1 := HX0.out.fr HC1.out.2.2 (fun h => h)
           have x0 := hX1.cell 0
           have x1 := hX1.cell 1
           have x2 := hX1.cell 2
           have x3 := hX1.cell 3
           have x4 := hX1.cell 4
           have x5 := hX1.cell 5
           clear ho hg hat)
        | fail)
      have H1 := Lib.hid (H0.out.fr0 HC1.out.2.2)
      have HA1 : Hid (∀ k, (Value.slice a1 xs.length c1).ownBlock = some k → ¬ S k ∧ ¬ T k ∧ k < w1.heap.size) := fun k hk => by
        have h1 := HC1.out.2.1 k hk
        simp only [World.size_alloc] at h1
        refine ⟨fun hs => ?_, fun hs => ?_, HC1.out.1.lt k hk⟩
        · have := H0.out.rws.lt k hs; simp only [World.size_alloc] at this
          exact HLT.out.1 k hs h1
        · exact HLT.out.2 k hs h1
      refine (rput_any tb ky _ xs _ H1.out.ref HQ.out (HC0.out.fr HC1.out.2.2 fun _ _ h => h) (fun hx k hk e => (HCA.out hx k hk).2 (e ▸ H1.out.qb)) hcl).mono ?_
      rintro e w2 ⟨he, hu2⟩
      rw [HMAY.out] at he
      subst he
      have hgd := good_put HG.out HFW.out (by omega) tb ky xs
      rw [rel_put HG.out tb ky xs hgd.1, ← colsN_put M tb ky xs] at hu2
      have HU2 := Lib.hid hu2
      have HF2 := Lib.hid hu2.2
      have HF2b : Hid (Fr w1 w2 (fun k => S k ∨ T k)) := HF2.out.mono fun k _ hk => .inr ((show k = qb from hk) ▸ H1.out.qb)
      have hX2 := HX0.out.fr (HC1.out.2.2.of_nil.transS HF2b.out) (fun h => h.elim HS.out.1 HS.out.2)
      have x0 := hX2.cell 0
      have x1 := hX2.cell 1
      have x2 := hX2.cell 2
      clear hu2 hX2
      go_wp2_with fail
      refine (api_put tb ky _ xs (H1.out.rws.fr HF2.out fun k hk e => H1.out.apart k hk ((show k = qb from e) ▸ H1.out.qb)) HG.out (HC1.out.1.at.fr HF2.out fun k hk e => (HA1.out k hk).2.1 ((show k = qb from e) ▸ H1.out.qb)) hcl).mono ?_
      rintro e w3 ⟨he, hp⟩
      rw [HERR.out] at he
      subst he
      have HBU : Hid (BothUpd w1 rb qb S T (mstep M ⟨kd, tb, ky, cl, nn, .slice av xs.length cc, xs⟩) w3) := by
        show BothUpd _ _ _ _ _ _ _
        rw [HST.out]
        exact H1.out.upd HU2.out hp
      have F3 : Hid (Fr w1 w3 (fun k => S k ∨ T k)) := HBU.out.fr
      clear hp hgd x0 x1 x2
      have HX3 := HX0.out.fr (HC1.out.2.2.of_nil.transS F3.out) (fun h => h.elim HS.out.1 HS.out.2)
      have x5 := HX3.cell 5
      have HIN := Lib.hid (HC1.out.1.fr F3.out fun k hk h => h.elim (HA1.out k hk).1 (HA1.out k hk).2.1)
      have HAR := Lib.hid (HC0.out.frN (HC1.out.2.2.of_nil.transS F3.out) fun hx k hk h => h.elim (HCA.out hx k hk).1 (HCA.out hx k hk).2)
      clear HX3
      go_wp2_with fail
      refine (sameInts_any _ _ xs xs _ HIN.out.at HAR.out hcl hcl).mono ?_
      rintro e w4 ⟨he, hf4⟩
      rw [decide_eq_true rfl] at he
      subst he
      have HIN4 := Lib.hid (HIN.out.fr hf4 fun _ _ h => h)
      have HF4 := Lib.hid hf4
      clear hf4 x5
      go_wp2_with fail
      go_loopw [23] (fun vi wr => ∃ (i : Nat) (ys : List Int), i ≤ xs.length ∧ vi = .int .i64 i ∧ ys.length = xs.length ∧ OwnInts wr 2 (.slice a1 ys.length c1) ys ∧ Fr w4 wr (fun k => (Value.slice a1 xs.length c1).ownBlock = some k)) (fun vi _ => xs.length - (intOf vi).toNat)
      case atStart => exact ⟨0, xs, by omega, rfl, rfl, HIN4.out, Fr.refl _ _⟩
      case round =>
        obtain ⟨i, ys, hi, rfl, hyl, hown, hfr⟩ := hrel
        have Hyl := Lib.hid hyl
        have Hown := Lib.hid hown
        have Hfr := Lib.hid hfr
        clear hyl hown hfr
        by_cases hlt : i < xs.length
        · have hly : i < ys.length := by have := Hyl.out; omega
          obtain ⟨b, cap2, hv, _⟩ := Hown.out.form (by omega)
          simp only [Value.slice.injEq, true_and] at hv
          obtain ⟨rfl, rfl⟩ := hv
          have p0 := Hown.out.cell rfl i hly
          have p1 := Hown.out.free rfl i
          generalize ys.getD i 0 = y at p0
          have hiI : (i : Int) < (xs.length : Int) := by omega
          go_wp2_with fail
          go_roundw
          case rel =>
            refine ⟨i + 1, ys.set i (wrap64 (y + 1)), by omega, by go_num, by rw [List.length_set]; exact Hyl.out, ?_, Hfr.out.setCell (p := ⟨b, i, none⟩) (fun _ => rfl) _⟩
            have := Hown.out.set rfl i (wrap64 (y + 1))
            rw [List.length_set]
            exact this
          case measure => simp [intOf]; omega
        · go_wp2_with fail
          go_ret
          refine ⟨rfl, ?_⟩
          exact HBU.out.mine HA1.out Hfr.out HF4.out (HF0.out.trans0 HC1.out.2.2) (fun k hk => by have h1 := HC1.out.2.1 k hk; simp only [World.size_alloc] at h1; omega)
  · have HST : Hid (mstep M ⟨kd, tb, ky, cl, nn, .slice av xs.length cc, xs⟩ = (mput M tb ky xs).1) := if_pos (show kd % 8 < 4 by omega)
    have g0 : (kd % 8 == 0) = false := by rw [beq_eq_false_iff_ne]; omega
    have g1 : (kd % 8 == 1) = false := by rw [beq_eq_false_iff_ne]; omega
    have g2 : (kd % 8 == 2) = false := by rw [beq_eq_false_iff_ne]; omega
    have g3 : (kd % 8 == 3) = true := by rw [beq_iff_eq]; exact hk
    clear hk
    rcases mput_err M tb ky xs with herr | herr
    all_goals
      have HERR := Lib.hid herr
      have HMAY : Hid (qmay (colsN M) tb xs = _) := rel_may M tb ky xs
      rw [herr] at HMAY
      clear herr
      go_enter Try.func21, Try.ntmps21
      go_wp2_with (first
        | (at_builtin
           refine wpList_app _ rfl _ _ _ rfl slI (.slice none 0 0) rfl (World.ownsRow_nil _ _ _ _) _ rfl (SlAt.of_ints HC0.out) (ints_one _) (by omega) ?_
           intro a1 c1 w1 ho hg hat
           rw [Nat.zero_add] at ho hat
           have HC1 := Lib.hid (Cloned.of_app rfl ho hg hat)
           have hX1 := HX0.out.fr HC1.out.2.2 (fun h => h)
           have x0 := hX1.cell 0
           have x1 := hX1.cell 1
           have x2 := hX1.cell 2
           have x3 := hX1.cell 3
           have x4 := hX1.cell 4
           have x5 := hX1.cell 5
           clear ho hg hat)
        | fail)
      have H1 := Lib.hid (H0.out.fr0 HC1.out.2.2)
      have HA1 : Hid (∀ k, (Value.slice a1 xs.length c1).ownBlock = some k → ¬ S k ∧ ¬ T k ∧ k < w1.heap.size) := fun k hk => by
        have h1 := HC1.out.2.1 k hk
        simp only [World.size_alloc] at h1
        refine ⟨fun hs => ?_, fun hs => ?_, HC1.out.1.lt k hk⟩
        · have := H0.out.rws.lt k hs; simp only [World.size_alloc] at this
          exact HLT.out.1 k hs h1
        · exact HLT.out.2 k hs h1
      refine (rput_any tb ky _ xs _ H1.out.ref HQ.out (HC0.out.fr HC1.out.2.2 fun _ _ h => h) (fun hx k hk e => (HCA.out hx k hk).2 (e ▸ H1.out.qb)) hcl).mono ?_
      rintro e w2 ⟨he, hu2⟩
      rw [HMAY.out] at he
      subst he
      have hgd := good_put HG.out HFW.out (by omega) tb ky xs
      rw [rel_put HG.out tb ky xs hgd.1, ← colsN_put M tb ky xs] at hu2
      have HU2 := Lib.hid hu2
      have HF2 := Lib.hid hu2.2
      have HF2b : Hid (Fr w1 w2 (fun k => S k ∨ T k)) := HF2.out.mono fun k _ hk => .inr ((show k = qb from hk) ▸ H1.out.qb)
      have hX2 := HX0.out.fr (HC1.out.2.2.of_nil.transS HF2b.out) (fun h => h.elim HS.out.1 HS.out.2)
      have x0 := hX2.cell 0
      have x1 := hX2.cell 1
      have x2 := hX2.cell 2
      clear hu2 hX2
      go_wp2_with fail
      refine (api_put tb ky _ xs (H1.out.rws.fr HF2.out fun k hk e => H1.out.apart k hk ((show k = qb from e) ▸ H1.out.qb)) HG.out (HC1.out.1.at.fr HF2.out fun k hk e => (HA1.out k hk).2.1 ((show k = qb from e) ▸ H1.out.qb)) hcl).mono ?_
      rintro e w3 ⟨he, hp⟩
      rw [HERR.out] at he
      subst he
      have HBU : Hid (BothUpd w1 rb qb S T (mstep M ⟨kd, tb, ky, cl, nn, .slice av xs.length cc, xs⟩) w3) := by
        show BothUpd _ _ _ _ _ _ _
        rw [HST.out]
        exact H1.out.upd HU2.out hp
      have F3 : Hid (Fr w1 w3 (fun k => S k ∨ T k)) := HBU.out.fr
      clear hp hgd x0 x1 x2
      have HX3 := HX0.out.fr (HC1.out.2.2.of_nil.transS F3.out) (fun h => h.elim HS.out.1 HS.out.2)
      have x5 := HX3.cell 5
      have HIN := Lib.hid (HC1.out.1.fr F3.out fun k hk h => h.elim (HA1.out k hk).1 (HA1.out k hk).2.1)
      have HAR := Lib.hid (HC0.out.frN (HC1.out.2.2.of_nil.transS F3.out) fun hx k hk h => h.elim (HCA.out hx k hk).1 (HCA.out hx k hk).2)
      clear HX3
      go_wp2_with fail
      refine (sameInts_any _ _ xs xs _ HIN.out.at HAR.out hcl hcl).mono ?_
      rintro e w4 ⟨he, hf4⟩
      rw [decide_eq_true rfl] at he
      subst he
      have HIN4 := Lib.hid (HIN.out.fr hf4 fun _ _ h => h)
      have HF4 := Lib.hid hf4
      clear hf4 x5
      go_wp2_with fail
      go_loopw [23] (fun vi wr => ∃ (i : Nat) (ys : List Int), i ≤ xs.length ∧ vi = .int .i64 i ∧ ys.length = xs.length ∧ OwnInts wr 2 (.slice a1 ys.length c1) ys ∧ Fr w4 wr (fun k => (Value.slice a1 xs.length c1).ownBlock = some k)) (fun vi _ => xs.length - (intOf vi).toNat)
      case atStart => exact ⟨0, xs, by omega, rfl, rfl, HIN4.out, Fr.refl _ _⟩
      case round =>
        obtain ⟨i, ys, hi, rfl, hyl, hown, hfr⟩ := hrel
        have Hyl := Lib.hid hyl
        have Hown := Lib.hid hown
        have Hfr := Lib.hid hfr
        clear hyl hown hfr
        by_cases hlt : i < xs.length
        · have hly : i < ys.length := by have := Hyl.out; omega
          obtain ⟨b, cap2, hv, _⟩ := Hown.out.form (by omega)
          simp only [Value.slice.injEq, true_and] at hv
          obtain ⟨rfl, rfl⟩ := hv
          have p0 := Hown.out.cell rfl i hly
          have p1 := Hown.out.free rfl i
          generalize ys.getD i 0 = y at p0
          have hiI : (i : Int) < (xs.length : Int) := by omega
          go_wp2_with fail
          go_roundw
          case rel =>
            refine ⟨i + 1, ys.set i (wrap64 (y + 1)), by omega, by go_num, by rw [List.length_set]; exact Hyl.out, ?_, Hfr.out.setCell (p := ⟨b, i, none⟩) (fun _ => rfl) _⟩
            have := Hown.out.set rfl i (wrap64 (y + 1))
            rw [List.length_set]
            exact this
          case measure => simp [intOf]; omega
        · go_wp2_with fail
          go_ret
          refine ⟨rfl, ?_⟩
          exact HBU.out.mine HA1.out Hfr.out HF4.out (HF0.out.trans0 HC1.out.2.2) (fun k hk => by have h1 := HC1.out.2.1 k hk; simp only [World.size_alloc] at h1; omega)

set_option maxRecDepth 100000 in
set_option maxHeartbeats 1000000 in
theorem does_set {rb qb : Nat} {M : List MTab} {S T : Nat → Prop} {B : Nat} (c : CallD) (w : World) (h : Both w rb qb M S T) (hg : Good M) (hfew : Few B M) (hB : B < 1000) (hcv : IntsAt w c.cv c.cols) (hca : 0 < c.cols.length → ∀ k, c.cv.ownBlock = some k → ¬ S k ∧ ¬ T k) (hcl : c.cols.length ≤ 1000000) (hu : 0 ≤ c.kind ∧ c.kind < 256) (hkd : c.kind % 8 = 4) :
    Calls Try.prog 21 #[.pointer (some ⟨rb, 0, none⟩), .pointer (some ⟨qb, 0, none⟩), .agg #[.int .u8 c.kind, .int .i64 c.table, .int .i64 c.key, .int .i64 c.col, .int .i64 c.n, c.cv]] w fun e w' =>
      e = .returned (.bool true) ∧ BothUpd w rb qb S T (mstep M c) w' := by
  obtain ⟨kd, tb, ky, cl, nn, cv, xs⟩ := c
  simp only at hcv hca hcl hu hkd
  obtain ⟨hu0, hu1⟩ := hu
  obtain ⟨av, cc, rfl⟩ := hcv.shape
  have HG := Lib.hid hg
  have HFW := Lib.hid hfew
  have HQ := Lib.hid (qok_flat hg hfew (by omega))
  have hf0 : Fr w (w.alloc (Obj.cells #[Value.int .u8 kd, .int .i64 tb, .int .i64 ky, .int .i64 cl, .int .i64 nn, .slice av xs.length cc] 32)) Nil := (Fr.refl w Nil).alloc _
  have H0 := Lib.hid (h.fr0 hf0)
  have HX0 := Lib.hid (Bk.new w 32 #[Value.int .u8 kd, .int .i64 tb, .int .i64 ky, .int .i64 cl, .int .i64 nn, .slice av xs.length cc])
  have HC0 : Hid (IntsAt (w.alloc (Obj.cells #[Value.int .u8 kd, .int .i64 tb, .int .i64 ky, .int .i64 cl, .int .i64 nn, .slice av xs.length cc] 32)) (.slice av xs.length cc) xs) := hcv.fr hf0 fun _ _ h => h
  have HS : Hid (¬ S w.heap.size ∧ ¬ T w.heap.size) := ⟨fun hk => by have := h.rws.lt _ hk; omega, fun hk => by have := h.ref.lt _ hk; omega⟩
  have HCA := Lib.hid hca
  have HL0 : Hid ((∀ k, S k → k < w.heap.size) ∧ (∀ k, T k → k < w.heap.size)) := ⟨h.rws.lt, h.ref.lt⟩
  have HF0 := Lib.hid hf0
  clear h hg hfew hcv hca hf0
  have HLT : Hid ((∀ k, S k → w.heap.size + 1 ≤ k → False) ∧ (∀ k, T k → w.heap.size + 1 ≤ k → False)) := ⟨fun k hk hl => by have := HL0.out.1 k hk; omega, fun k hk hl => by have := HL0.out.2 k hk; omega⟩
  have hk := hkd
  clear hkd
  have HST : Hid (mstep M ⟨kd, tb, ky, cl, nn, .slice av xs.length cc, xs⟩ = (mset M tb ky cl nn).1) := (if_neg (show ¬ kd % 8 < 4 by omega)).trans (if_pos hk)
  have g0 : (kd % 8 == 0) = false := by rw [beq_eq_false_iff_ne]; omega
  have g1 : (kd % 8 == 1) = false := by rw [beq_eq_false_iff_ne]; omega
  have g2 : (kd % 8 == 2) = false := by rw [beq_eq_false_iff_ne]; omega
  have g3 : (kd % 8 == 3) = false := by rw [beq_eq_false_iff_ne]; omega
  have g4 : (kd % 8 == 4) = true := by rw [beq_iff_eq]; exact hk
  clear hk
  rcases mset_ways M tb ky cl nn with ⟨herr, hb⟩ | ⟨herr, hb⟩ | ⟨herr, hb⟩
  all_goals
    have hgd := good_set HG.out HFW.out tb ky cl nn
    have hrel := rel_set HG.out tb ky cl nn hgd.1
    rw [herr, hb] at hrel
    have HREL := Lib.hid hrel
    have HERR := Lib.hid herr
    have HB := Lib.hid hb
    clear herr hb hrel
    go_enter Try.func21, Try.ntmps21
    go_wp2_with (first
      | (at_builtin
         refine wpList_app _ rfl _ _ _ rfl slI (.slice none 0 0) rfl (World.ownsRow_nil _ _ _ _) _ rfl (SlAt.of_ints HC0.out) (ints_one _) (by omega) ?_
         intro a1 c1 w1 ho hg hat
         rw [Nat.zero_add] at ho hat
         have HC1 := Lib.hid (Cloned.of_app rfl ho hg hat)
         have hX1 := HX0.out.fr HC1.out.2.2 (fun h => h)
         have x0 := hX1.cell 0
         have x1 := hX1.cell 1
         have x2 := hX1.cell 2
         have x3 := hX1.cell 3
         have x4 := hX1.cell 4
         have x5 := hX1.cell 5
         clear ho hg hat)
      | fail)
    have H1 := Lib.hid (H0.out.fr0 HC1.out.2.2)
    have HA1 : Hid (∀ k, (Value.slice a1 xs.length c1).ownBlock = some k → ¬ S k ∧ ¬ T k ∧ k < w1.heap.size) := fun k hk => by
      have h1 := HC1.out.2.1 k hk
      simp only [World.size_alloc] at h1
      refine ⟨fun hs => ?_, fun hs => ?_, HC1.out.1.lt k hk⟩
      · have := H0.out.rws.lt k hs; simp only [World.size_alloc] at this
        exact HLT.out.1 k hs h1
      · exact HLT.out.2 k hs h1
    refine (rset_any tb ky cl nn _ H1.out.ref HQ.out (fun ys hys => by rw [rel_get] at hys; rw [rel_cols]; exact congrArg _ (mget_width HG.out hys))).mono ?_
    rintro e w2 ⟨he, hu2⟩
    rw [HREL.out] at he hu2
    subst he
    rw [← colsN_set M tb ky cl nn] at hu2
    have HU2 := Lib.hid hu2
    have HF2 := Lib.hid hu2.2
    have HF2b : Hid (Fr w1 w2 (fun k => S k ∨ T k)) := HF2.out.mono fun k _ hk => .inr ((show k = qb from hk) ▸ H1.out.qb)
    have hX2 := HX0.out.fr (HC1.out.2.2.of_nil.transS HF2b.out) (fun h => h.elim HS.out.1 HS.out.2)
    have x0 := hX2.cell 0
    have x1 := hX2.cell 1
    have x2 := hX2.cell 2
    have x3 := hX2.cell 3
    have x4 := hX2.cell 4
    clear hu2 hX2
    go_wp2_with fail
    refine (api_set tb ky cl nn (H1.out.rws.fr HF2.out fun k hk e => H1.out.apart k hk ((show k = qb from e) ▸ H1.out.qb)) HG.out).mono ?_
    rintro e w3 ⟨he, hp⟩
    rw [HERR.out, HB.out] at he
    subst he
    have HBU : Hid (BothUpd w1 rb qb S T (mstep M ⟨kd, tb, ky, cl, nn, .slice av xs.length cc, xs⟩) w3) := by
      show BothUpd _ _ _ _ _ _ _
      rw [HST.out]
      exact H1.out.upd HU2.out hp
    have F3 : Hid (Fr w1 w3 (fun k => S k ∨ T k)) := HBU.out.fr
    clear hp hgd x0 x1 x2 x3 x4
    have HX3 := HX0.out.fr (HC1.out.2.2.of_nil.transS F3.out) (fun h => h.elim HS.out.1 HS.out.2)
    have x5 := HX3.cell 5
    have HIN := Lib.hid (HC1.out.1.fr F3.out fun k hk h => h.elim (HA1.out k hk).1 (HA1.out k hk).2.1)
    have HAR := Lib.hid (HC0.out.frN (HC1.out.2.2.of_nil.transS F3.out) fun hx k hk h => h.elim (HCA.out hx k hk).1 (HCA.out hx k hk).2)
    clear HX3
    go_wp2_with fail
    refine (sameInts_any _ _ xs xs _ HIN.out.at HAR.out hcl hcl).mono ?_
    rintro e w4 ⟨he, hf4⟩
    rw [decide_eq_true rfl] at he
    subst he
    have HIN4 := Lib.hid (HIN.out.fr hf4 fun _ _ h => h)
    have HF4 := Lib.hid hf4
    clear hf4 x5
    go_wp2_with fail
    go_loopw [23] (fun vi wr => ∃ (i : Nat) (ys : List Int), i ≤ xs.length ∧ vi = .int .i64 i ∧ ys.length = xs.length ∧ OwnInts wr 2 (.slice a1 ys.length c1) ys ∧ Fr w4 wr (fun k => (Value.slice a1 xs.length c1).ownBlock = some k)) (fun vi _ => xs.length - (intOf vi).toNat)
    case atStart => exact ⟨0, xs, by omega, rfl, rfl, HIN4.out, Fr.refl _ _⟩
    case round =>
      obtain ⟨i, ys, hi, rfl, hyl, hown, hfr⟩ := hrel
      have Hyl := Lib.hid hyl
      have Hown := Lib.hid hown
      have Hfr := Lib.hid hfr
      clear hyl hown hfr
      by_cases hlt : i < xs.length
      · have hly : i < ys.length := by have := Hyl.out; omega
        obtain ⟨b, cap2, hv, _⟩ := Hown.out.form (by omega)
        simp only [Value.slice.injEq, true_and] at hv
        obtain ⟨rfl, rfl⟩ := hv
        have p0 := Hown.out.cell rfl i hly
        have p1 := Hown.out.free rfl i
        generalize ys.getD i 0 = y at p0
        have hiI : (i : Int) < (xs.length : Int) := by omega
        go_wp2_with fail
        go_roundw
        case rel =>
          refine ⟨i + 1, ys.set i (wrap64 (y + 1)), by omega, by go_num, by rw [List.length_set]; exact Hyl.out, ?_, Hfr.out.setCell (p := ⟨b, i, none⟩) (fun _ => rfl) _⟩
          have := Hown.out.set rfl i (wrap64 (y + 1))
          rw [List.length_set]
          exact this
        case measure => simp [intOf]; omega
      · go_wp2_with fail
        go_ret
        refine ⟨rfl, ?_⟩
        exact HBU.out.mine HA1.out Hfr.out HF4.out (HF0.out.trans0 HC1.out.2.2) (fun k hk => by have h1 := HC1.out.2.1 k hk; simp only [World.size_alloc] at h1; omega)

set_option maxRecDepth 100000 in
set_option maxHeartbeats 1000000 in
theorem does_del {rb qb : Nat} {M : List MTab} {S T : Nat → Prop} {B : Nat} (c : CallD) (w : World) (h : Both w rb qb M S T) (hg : Good M) (hfew : Few B M) (hB : B < 1000) (hcv : IntsAt w c.cv c.cols) (hca : 0 < c.cols.length → ∀ k, c.cv.ownBlock = some k → ¬ S k ∧ ¬ T k) (hcl : c.cols.length ≤ 1000000) (hu : 0 ≤ c.kind ∧ c.kind < 256) (hkd : c.kind % 8 = 5) :
    Calls Try.prog 21 #[.pointer (some ⟨rb, 0, none⟩), .pointer (some ⟨qb, 0, none⟩), .agg #[.int .u8 c.kind, .int .i64 c.table, .int .i64 c.key, .int .i64 c.col, .int .i64 c.n, c.cv]] w fun e w' =>
      e = .returned (.bool true) ∧ BothUpd w rb qb S T (mstep M c) w' := by
  obtain ⟨kd, tb, ky, cl, nn, cv, xs⟩ := c
  simp only at hcv hca hcl hu hkd
  obtain ⟨hu0, hu1⟩ := hu
  obtain ⟨av, cc, rfl⟩ := hcv.shape
  have HG := Lib.hid hg
  have HFW := Lib.hid hfew
  have HQ := Lib.hid (qok_flat hg hfew (by omega))
  have hf0 : Fr w (w.alloc (Obj.cells #[Value.int .u8 kd, .int .i64 tb, .int .i64 ky, .int .i64 cl, .int .i64 nn, .slice av xs.length cc] 32)) Nil := (Fr.refl w Nil).alloc _
  have H0 := Lib.hid (h.fr0 hf0)
  have HX0 := Lib.hid (Bk.new w 32 #[Value.int .u8 kd, .int .i64 tb, .int .i64 ky, .int .i64 cl, .int .i64 nn, .slice av xs.length cc])
  have HC0 : Hid (IntsAt (w.alloc (Obj.cells #[Value.int .u8 kd, .int .i64 tb, .int .i64 ky, .int .i64 cl, .int .i64 nn, .slice av xs.length cc] 32)) (.slice av xs.length cc) xs) := hcv.fr hf0 fun _ _ h => h
  have HS : Hid (¬ S w.heap.size ∧ ¬ T w.heap.size) := ⟨fun hk => by have := h.rws.lt _ hk; omega, fun hk => by have := h.ref.lt _ hk; omega⟩
  have HCA := Lib.hid hca
  have HL0 : Hid ((∀ k, S k → k < w.heap.size) ∧ (∀ k, T k → k < w.heap.size)) := ⟨h.rws.lt, h.ref.lt⟩
  have HF0 := Lib.hid hf0
  clear h hg hfew hcv hca hf0
  have HLT : Hid ((∀ k, S k → w.heap.size + 1 ≤ k → False) ∧ (∀ k, T k → w.heap.size + 1 ≤ k → False)) := ⟨fun k hk hl => by have := HL0.out.1 k hk; omega, fun k hk hl => by have := HL0.out.2 k hk; omega⟩
  have hk := hkd
  clear hkd
  have HST : Hid (mstep M ⟨kd, tb, ky, cl, nn, .slice av xs.length cc, xs⟩ = (mdel M tb ky).1) := (if_neg (show ¬ kd % 8 < 4 by omega)).trans ((if_neg (show ¬ kd % 8 = 4 by omega)).trans (if_pos hk))
  have g0 : (kd % 8 == 0) = false := by rw [beq_eq_false_iff_ne]; omega
  have g1 : (kd % 8 == 1) = false := by rw [beq_eq_false_iff_ne]; omega
  have g2 : (kd % 8 == 2) = false := by rw [beq_eq_false_iff_ne]; omega
  have g3 : (kd % 8 == 3) = false := by rw [beq_eq_false_iff_ne]; omega
  have g4 : (kd % 8 == 4) = false := by rw [beq_eq_false_iff_ne]; omega
  have g5 : (kd % 8 == 5) = true := by rw [beq_iff_eq]; exact hk
  clear hk
  have HRET := Lib.hid (rel_del_ret HG.out tb ky)
  rcases mdel_ways M tb ky with ⟨herr, hb⟩ | ⟨herr, hb⟩ | ⟨herr, hb⟩
  all_goals
    have hgd := good_del HG.out HFW.out tb ky
    have HH : Hid (qhas (flatM M) tb ky = _) := HRET.out.1.symm.trans hb
    have HM := Lib.hid (HRET.out.2.1)
    rw [herr] at HM
    have HERR := Lib.hid herr
    have HB := Lib.hid hb
    clear herr hb
    go_enter Try.func21, Try.ntmps21
    go_wp2_with (first
      | (at_builtin
         refine wpList_app _ rfl _ _ _ rfl slI (.slice none 0 0) rfl (World.ownsRow_nil _ _ _ _) _ rfl (SlAt.of_ints HC0.out) (ints_one _) (by omega) ?_
         intro a1 c1 w1 ho hg hat
         rw [Nat.zero_add] at ho hat
         have HC1 := Lib.hid (Cloned.of_app rfl ho hg hat)
         have hX1 := HX0.out.fr HC1.out.2.2 (fun h => h)
         have x0 := hX1.cell 0
         have x1 := hX1.cell 1
         have x2 := hX1.cell 2
         have x3 := hX1.cell 3
         have x4 := hX1.cell 4
         have x5 := hX1.cell 5
         clear ho hg hat)
      | fail)
    have H1 := Lib.hid (H0.out.fr0 HC1.out.2.2)
    have HA1 : Hid (∀ k, (Value.slice a1 xs.length c1).ownBlock = some k → ¬ S k ∧ ¬ T k ∧ k < w1.heap.size) := fun k hk => by
      have h1 := HC1.out.2.1 k hk
      simp only [World.size_alloc] at h1
      refine ⟨fun hs => ?_, fun hs => ?_, HC1.out.1.lt k hk⟩
      · have := H0.out.rws.lt k hs; simp only [World.size_alloc] at this
        exact HLT.out.1 k hs h1
      · exact HLT.out.2 k hs h1
    refine (rdel_any tb ky _ H1.out.ref HQ.out).mono ?_
    rintro e w2 ⟨he, hu2⟩
    rw [HM.out, HH.out] at he
    subst he
    rw [rel_del HG.out tb ky hgd.1, ← colsN_del M tb ky] at hu2
    have HU2 := Lib.hid hu2
    have HF2 := Lib.hid hu2.2
    have HF2b : Hid (Fr w1 w2 (fun k => S k ∨ T k)) := HF2.out.mono fun k _ hk => .inr ((show k = qb from hk) ▸ H1.out.qb)
    have hX2 := HX0.out.fr (HC1.out.2.2.of_nil.transS HF2b.out) (fun h => h.elim HS.out.1 HS.out.2)
    have x0 := hX2.cell 0
    have x1 := hX2.cell 1
    have x2 := hX2.cell 2
    have x3 := hX2.cell 3
    have x4 := hX2.cell 4
    clear hu2 hX2
    go_wp2_with fail
    refine (api_del tb ky (H1.out.rws.fr HF2.out fun k hk e => H1.out.apart k hk ((show k = qb from e) ▸ H1.out.qb)) HG.out).mono ?_
    rintro e w3 ⟨he, hp⟩
    rw [HERR.out, HB.out] at he
    subst he
    have HBU : Hid (BothUpd w1 rb qb S T (mstep M ⟨kd, tb, ky, cl, nn, .slice av xs.length cc, xs⟩) w3) := by
      show BothUpd _ _ _ _ _ _ _
      rw [HST.out]
      exact H1.out.upd HU2.out hp
    have F3 : Hid (Fr w1 w3 (fun k => S k ∨ T k)) := HBU.out.fr
    clear hp hgd x0 x1 x2 x3 x4
    have HX3 := HX0.out.fr (HC1.out.2.2.of_nil.transS F3.out) (fun h => h.elim HS.out.1 HS.out.2)
    have x5 := HX3.cell 5
    have HIN := Lib.hid (HC1.out.1.fr F3.out fun k hk h => h.elim (HA1.out k hk).1 (HA1.out k hk).2.1)
    have HAR := Lib.hid (HC0.out.frN (HC1.out.2.2.of_nil.transS F3.out) fun hx k hk h => h.elim (HCA.out hx k hk).1 (HCA.out hx k hk).2)
    clear HX3
    go_wp2_with fail
    refine (sameInts_any _ _ xs xs _ HIN.out.at HAR.out hcl hcl).mono ?_
    rintro e w4 ⟨he, hf4⟩
    rw [decide_eq_true rfl] at he
    subst he
    have HIN4 := Lib.hid (HIN.out.fr hf4 fun _ _ h => h)
    have HF4 := Lib.hid hf4
    clear hf4 x5
    go_wp2_with fail
    go_loopw [23] (fun vi wr => ∃ (i : Nat) (ys : List Int), i ≤ xs.length ∧ vi = .int .i64 i ∧ ys.length = xs.length ∧ OwnInts wr 2 (.slice a1 ys.length c1) ys ∧ Fr w4 wr (fun k => (Value.slice a1 xs.length c1).ownBlock = some k)) (fun vi _ => xs.length - (intOf vi).toNat)
    case atStart => exact ⟨0, xs, by omega, rfl, rfl, HIN4.out, Fr.refl _ _⟩
    case round =>
      obtain ⟨i, ys, hi, rfl, hyl, hown, hfr⟩ := hrel
      have Hyl := Lib.hid hyl
      have Hown := Lib.hid hown
      have Hfr := Lib.hid hfr
      clear hyl hown hfr
      by_cases hlt : i < xs.length
      · have hly : i < ys.length := by have := Hyl.out; omega
        obtain ⟨b, cap2, hv, _⟩ := Hown.out.form (by omega)
        simp only [Value.slice.injEq, true_and] at hv
        obtain ⟨rfl, rfl⟩ := hv
        have p0 := Hown.out.cell rfl i hly
        have p1 := Hown.out.free rfl i
        generalize ys.getD i 0 = y at p0
        have hiI : (i : Int) < (xs.length : Int) := by omega
        go_wp2_with fail
        go_roundw
        case rel =>
          refine ⟨i + 1, ys.set i (wrap64 (y + 1)), by omega, by go_num, by rw [List.length_set]; exact Hyl.out, ?_, Hfr.out.setCell (p := ⟨b, i, none⟩) (fun _ => rfl) _⟩
          have := Hown.out.set rfl i (wrap64 (y + 1))
          rw [List.length_set]
          exact this
        case measure => simp [intOf]; omega
      · go_wp2_with fail
        go_ret
        refine ⟨rfl, ?_⟩
        exact HBU.out.mine HA1.out Hfr.out HF4.out (HF0.out.trans0 HC1.out.2.2) (fun k hk => by have h1 := HC1.out.2.1 k hk; simp only [World.size_alloc] at h1; omega)

end Go.Proofs.Ytljgifjokdppgaa
