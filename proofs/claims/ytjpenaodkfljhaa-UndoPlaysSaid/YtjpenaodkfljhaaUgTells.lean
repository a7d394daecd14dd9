/-
  Walk of tells (interlocklaw14): the log tells what the document's does; what is told is spoilt.
  No condition but sizes.
-/
import Derived.Test.YtjpenaodkfljhaaUgSame
import Derived.Test.YtjpenaodkfljhaaSink
namespace Go.Proofs.Ytjpenaodkfljhaa
open Go Go.RowKit

theorem own_at_cells {w : World} {v : Value} {g : List DEnt} (h : w.ownsRow 0 133 5 v g.length (dvals g)) {i : Nat} {r : DEnt} (hr : g[i]? = some r) :
    ∃ b off cap, v = .slice (some ⟨b, off, none⟩) g.length cap ∧ w.cell? ⟨b, off + i * 5 + 1, none⟩ = some (.int .i64 r.table) ∧ w.cell? ⟨b, off + i * 5 + 2, none⟩ = some (.int .i64 r.key) := by
  have hi := (List.getElem?_eq_some_iff.1 hr).1
  obtain ⟨b, off, cap, rfl, hc⟩ := flat_form (f := DEnt.vals) (n := 5) (fun _ => rfl) (by decide) (SlAt.of_own h).1 (by omega)
  exact ⟨b, off, cap, rfl, hc i r hr 1 _ rfl, hc i r hr 2 _ rfl⟩
set_option maxRecDepth 100000 in
set_option maxHeartbeats 4000000 in
theorem utells_any {lb db rb qb N : Nat} {most : Int} {lv : Value} {gd : List DEnt} {L : List (Int × Ent)} {M : List MTab} {S Sr Sq : Nat → Prop} (who : Int) (w : World) (h : LogAt w lb most L S) (hd : DLogG w db most lv gd) (hL : dmods gd = L) (hr : Rws w rb M Sr) (hq : RefAt w qb (colsN M) (flatM M) Sq)
    (hg : Good M) (hf : Few N M) (hN : N + L.length < 800) (hw : (Lit.int .i64 who).wf = true) (hwf : ∀ p ∈ L, (Lit.int .i64 p.1).wf = true) :
    Calls Try.prog 30 #[lptr lb, rptr db, rptr rb, rptr qb, .int .i64 who] w fun e w' => e = .returned (.bool true) ∧ Fr w w' Nil := by
  have hgl : gd.length = L.length := by rw [← hL, dmods_len]
  obtain ⟨a, c, rfl, hc⟩ := hd.shape
  have HL := Lib.hid h
  have HD := Lib.hid hd
  have HR := Lib.hid hr
  have HQ := Lib.hid hq
  have HLE := Lib.hid hL
  have HWF := Lib.hid hwf
  have HOLL : Hid ((ofL L who).length ≤ L.length) := ofL_len L who
  have q1 := hd.root.cell 1
  simp only [List.getElem?_cons_zero, List.getElem?_cons_succ] at q1
  clear h hd hr hq hwf
  obtain ⟨n, hn⟩ : ∃ n, (ofL L who).length = n := ⟨_, rfl⟩
  have hn8 : n ≤ 800 := by have := HOLL.out; omega
  have HNN := Lib.hid hn
  clear hn
  go_enter Try.func30, Try.ntmps30
  go_wp2_with fail
  refine (dof_any who _ HD.out (by omega)).mono ?_
  rintro e w1 ⟨ao, co, rfl, ho, hnew, hf1⟩
  have hgm := dmods_of gd who
  rw [hL] at hgm
  generalize gd.filter (fun e => e.who == who) = go at ho hnew hgm
  have hgol : go.length = n := by rw [← HNN.out, ← hgm, List.length_map]
  rw [hgol]
  have HGO := Lib.hid hgol
  have HGM := Lib.hid hgm
  have HO1 := Lib.hid ho
  have HOB : Hid (∀ k, (Value.slice ao go.length co).ownBlock = some k → k < w1.heap.size) := fun k hk => (World.ownsRow.lt ho k hk).2
  have HF1 := Lib.hid hf1
  clear hgm ho hnew hf1 hgol
  go_wp2_with fail
  refine (utouched_any who _ (HL.out.fr0 HF1.out) hw (by omega)).mono ?_
  rintro e w2 ⟨at2, ct, gt, rfl, hNt, hrt, hf2⟩
  have hgtl : gt.length = n := by have := congrArg List.length hrt; rw [← HNN.out]; simpa [rowsOf] using this
  rw [hgtl]
  have HGT := Lib.hid hgtl
  have HF2 := Lib.hid (HF1.out.trans0 hf2)
  have HO2 := Lib.hid (Fr.own hf2 HO1.out fun _ _ h => h)
  have HT2 := Lib.hid hNt
  have HRT := Lib.hid hrt
  have HS1 : Hid (w.heap.size ≤ w1.heap.size) := HF1.out.size
  have k1 := KeptF.cell (HF2.out.cell q1 fun h => h)
  rw [hgl] at k1
  clear hf2 hNt hrt q1 HO1 hgtl
  go_wp2_with fail
  refine wp_region_sink 38 (KeptF w2) (by kernel_rfl) ?_
  have hSa : KeptF w2 w2.drew := KeptF.start _
  refine wpAnyS_take (i := 0) (v := ?_) rfl (by kernel_rfl) (fun _ _ _ h => h) (by rfl) hSa ?_ ?_
  rotate_left
  · intro w' hS'
    (try dsimp only at hS')
    go_simp <;> with_reducible rfl
  try simp only [Act.put, List.setIfInBounds_toArray, List.set_cons_zero, List.set_cons_succ]
  refine wpAnyS_take (i := 2) (v := ?_) rfl (by kernel_rfl) (fun _ _ _ h => h) (by rfl) hSa ?_ ?_
  rotate_left
  · intro w' hS'
    (try dsimp only at hS')
    go_simp <;> with_reducible rfl
  try simp only [Act.put, List.setIfInBounds_toArray, List.set_cons_zero, List.set_cons_succ]
  refine wpAnyS_take (i := 3) (v := ?_) rfl (by kernel_rfl) (fun _ _ _ h => h) (by rfl) hSa ?_ ?_
  rotate_left
  · intro w' hS'
    (try dsimp only at hS')
    go_simp <;> with_reducible rfl
  try simp only [Act.put, List.setIfInBounds_toArray, List.set_cons_zero, List.set_cons_succ]
  refine wpAnyS_take (i := 4) (v := ?_) rfl (by kernel_rfl) (fun _ _ _ h => h) (by rfl) hSa ?_ ?_
  rotate_left
  · intro w' hS'
    (try dsimp only at hS')
    go_simp <;> with_reducible rfl
  try simp only [Act.put, List.setIfInBounds_toArray, List.set_cons_zero, List.set_cons_succ]
  refine wpAnyS_take (i := 5) (v := ?_) rfl (by kernel_rfl) (fun _ _ _ h => h) (by rfl) hSa ?_ ?_
  rotate_left
  · intro w' hS'
    have ck1 := k1 _ hS'
    go_simp <;> with_reducible rfl
  try simp only [Act.put, List.setIfInBounds_toArray, List.set_cons_zero, List.set_cons_succ]
  refine wpAnyS_take (i := 6) (v := ?_) rfl (by kernel_rfl) (fun _ _ _ h => h) (by rfl) hSa ?_ ?_
  rotate_left
  · intro w' hS'
    (try dsimp only at hS')
    go_simp <;> with_reducible rfl
  try simp only [Act.put, List.setIfInBounds_toArray, List.set_cons_zero, List.set_cons_succ]
  refine wpAnyS_one (i := 1) rfl (by kernel_rfl) (by decide) (by rfl) fun K hK => ?_
  go_simp
  refine (uused_any _ ((HL.out.fr0 HF2.out).fr0 hSa.fr)).mono ?_
  rintro e w3 ⟨rfl, rfl⟩
  refine hK.out _ _ hSa ?_
  clear hK K
  try simp only [Act.put, List.setIfInBounds_toArray, List.set_cons_zero, List.set_cons_succ]
  refine wpAnyS_take (i := 7) (v := ?_) rfl (by kernel_rfl) (fun _ _ _ h => h) (by rfl) hSa ?_ ?_
  rotate_left
  · intro w' hS'
    (try dsimp only at hS')
    go_simp <;> with_reducible rfl
  try simp only [Act.put, List.setIfInBounds_toArray, List.set_cons_zero, List.set_cons_succ]
  refine wpAnyS_take (i := 8) (v := ?_) rfl (by kernel_rfl) (fun _ _ _ h => h) (by rfl) hSa ?_ ?_
  rotate_left
  · intro w' hS'
    (try dsimp only at hS')
    go_simp <;> with_reducible rfl
  try simp only [Act.put, List.setIfInBounds_toArray, List.set_cons_zero, List.set_cons_succ]
  refine wpAnyS_take (i := 9) (v := ?_) rfl (by kernel_rfl) (fun _ _ _ h => h) (by rfl) hSa ?_ ?_
  rotate_left
  · intro w' hS'
    (try dsimp only at hS')
    go_simp <;> with_reducible rfl
  try simp only [Act.put, List.setIfInBounds_toArray, List.set_cons_zero, List.set_cons_succ]
  refine wpAnyS_take (i := 10) (v := ?_) rfl (by kernel_rfl) (fun _ _ _ h => h) (by rfl) hSa ?_ ?_
  rotate_left
  · intro w' hS'
    (try dsimp only at hS')
    go_simp <;> with_reducible rfl
  try simp only [Act.put, List.setIfInBounds_toArray, List.set_cons_zero, List.set_cons_succ]
  refine wpAnyS_take (i := 12) (v := ?_) rfl (by kernel_rfl) (fun _ _ _ h => h) (by rfl) hSa ?_ ?_
  rotate_left
  · intro w' hS'
    (try dsimp only at hS')
    go_simp <;> with_reducible rfl
  try simp only [Act.put, List.setIfInBounds_toArray, List.set_cons_zero, List.set_cons_succ]
  refine wpAnyS_take (i := 13) (v := ?_) rfl (by kernel_rfl) (fun _ _ _ h => h) (by rfl) hSa ?_ ?_
  rotate_left
  · intro w' hS'
    (try dsimp only at hS')
    go_simp <;> with_reducible rfl
  try simp only [Act.put, List.setIfInBounds_toArray, List.set_cons_zero, List.set_cons_succ]
  refine wpAnyS_one (i := 11) rfl (by kernel_rfl) (by decide) (by rfl) fun K hK => ?_
  go_simp
  refine (ulen_any who _ ((HL.out.fr0 HF2.out).fr0 hSa.fr) hw).mono ?_
  rintro e w3 ⟨rfl, rfl⟩
  rw [HNN.out]
  refine hK.out _ _ hSa ?_
  clear hK K
  try simp only [Act.put, List.setIfInBounds_toArray, List.set_cons_zero, List.set_cons_succ]
  refine wpAnyS_take (i := 14) (v := ?_) rfl (by kernel_rfl) (fun _ _ _ h => h) (by rfl) hSa ?_ ?_
  rotate_left
  · intro w' hS'
    (try dsimp only at hS')
    go_simp <;> with_reducible rfl
  try simp only [Act.put, List.setIfInBounds_toArray, List.set_cons_zero, List.set_cons_succ]
  refine wpAnyS_take (i := 15) (v := ?_) rfl (by kernel_rfl) (fun _ _ _ h => h) (by rfl) hSa ?_ ?_
  rotate_left
  · intro w' hS'
    (try dsimp only at hS')
    go_simp <;> with_reducible rfl
  try simp only [Act.put, List.setIfInBounds_toArray, List.set_cons_zero, List.set_cons_succ]
  refine wpAnyS_take (i := 16) (v := ?_) rfl (by kernel_rfl) (fun _ _ _ h => h) (by rfl) hSa ?_ ?_
  rotate_left
  · intro w' hS'
    (try dsimp only at hS')
    go_simp <;> with_reducible rfl
  try simp only [Act.put, List.setIfInBounds_toArray, List.set_cons_zero, List.set_cons_succ]
  refine wpAnyS_take (i := 17) (v := ?_) rfl (by kernel_rfl) (fun _ _ _ h => h) (by rfl) hSa ?_ ?_
  rotate_left
  · intro w' hS'
    (try dsimp only at hS')
    go_simp <;> with_reducible rfl
  try simp only [Act.put, List.setIfInBounds_toArray, List.set_cons_zero, List.set_cons_succ]
  refine wpAnyS_take (i := 18) (v := ?_) rfl (by kernel_rfl) (fun _ _ _ h => h) (by rfl) hSa ?_ ?_
  rotate_left
  · intro w' hS'
    (try dsimp only at hS')
    go_simp <;> with_reducible rfl
  try simp only [Act.put, List.setIfInBounds_toArray, List.set_cons_zero, List.set_cons_succ]
  refine wpAnyS_take (i := 19) (v := ?_) rfl (by kernel_rfl) (fun _ _ _ h => h) (by rfl) hSa ?_ ?_
  rotate_left
  · intro w' hS'
    (try dsimp only at hS')
    go_simp <;> with_reducible rfl
  try simp only [Act.put, List.setIfInBounds_toArray, List.set_cons_zero, List.set_cons_succ]
  refine wpAnyS_take (i := 20) (v := ?_) rfl (by kernel_rfl) (fun _ _ _ h => h) (by rfl) hSa ?_ ?_
  rotate_left
  · intro w' hS'
    (try dsimp only at hS')
    go_simp <;> with_reducible rfl
  try simp only [Act.put, List.setIfInBounds_toArray, List.set_cons_zero, List.set_cons_succ]
  refine wpAnyS_take (i := 21) (v := ?_) rfl (by kernel_rfl) (fun _ _ _ h => h) (by rfl) hSa ?_ ?_
  rotate_left
  · intro w' hS'
    (try dsimp only at hS')
    go_simp <;> with_reducible rfl
  try simp only [Act.put, List.setIfInBounds_toArray, List.set_cons_zero, List.set_cons_succ]
  refine wpAnyS_take (i := 22) (v := ?_) rfl (by kernel_rfl) (fun _ _ _ h => h) (by rfl) hSa ?_ ?_
  rotate_left
  · intro w' hS'
    (try dsimp only at hS')
    go_simp <;> with_reducible rfl
  try simp only [Act.put, List.setIfInBounds_toArray, List.set_cons_zero, List.set_cons_succ]
  refine wpAnyS_take (i := 23) (v := ?_) rfl (by kernel_rfl) (fun _ _ _ h => h) (by rfl) hSa ?_ ?_
  rotate_left
  · intro w' hS'
    (try dsimp only at hS')
    go_simp <;> with_reducible rfl
  try simp only [Act.put, List.setIfInBounds_toArray, List.set_cons_zero, List.set_cons_succ]
  refine wpAnyS_take (i := 24) (v := ?_) rfl (by kernel_rfl) (fun _ _ _ h => h) (by rfl) hSa ?_ ?_
  rotate_left
  · intro w' hS'
    (try dsimp only at hS')
    go_simp <;> with_reducible rfl
  try simp only [Act.put, List.setIfInBounds_toArray, List.set_cons_zero, List.set_cons_succ]
  refine wpAnyS_take (i := 25) (v := ?_) rfl (by kernel_rfl) (fun _ _ _ h => h) (by rfl) hSa ?_ ?_
  rotate_left
  · intro w' hS'
    (try dsimp only at hS')
    go_simp <;> with_reducible rfl
  try simp only [Act.put, List.setIfInBounds_toArray, List.set_cons_zero, List.set_cons_succ]
  refine wpAnyS_one (i := 26) rfl (by kernel_rfl) (by decide) (by rfl) fun K hK => ?_
  go_simp
  refine (lsame_any _ ((HR.out.fr0 HF2.out).fr0 hSa.fr) ((HQ.out.fr0 HF2.out).fr0 hSa.fr) hg hf (by omega)).mono ?_
  rintro e w3 ⟨rfl, hf3⟩
  have hSb := hSa.next hf3
  refine hK.out _ _ hSb ?_
  clear hK K
  try simp only [Act.put, List.setIfInBounds_toArray, List.set_cons_zero, List.set_cons_succ]
  refine wpAnyS_take (i := 27) (v := ?_) rfl (by kernel_rfl) (fun _ _ _ h => h) (by rfl) hSb ?_ ?_
  rotate_left
  · intro w' hS'
    (try dsimp only at hS')
    go_simp <;> with_reducible rfl
  try simp only [Act.put, List.setIfInBounds_toArray, List.set_cons_zero, List.set_cons_succ]
  refine wpAnyS_take (i := 28) (v := ?_) rfl (by kernel_rfl) (fun _ _ _ h => h) (by rfl) hSb ?_ ?_
  rotate_left
  · intro w' hS'
    (try dsimp only at hS')
    go_simp <;> with_reducible rfl
  try simp only [Act.put, List.setIfInBounds_toArray, List.set_cons_zero, List.set_cons_succ]
  refine wpAnyS_take (i := 29) (v := ?_) rfl (by kernel_rfl) (fun _ _ _ h => h) (by rfl) hSb ?_ ?_
  rotate_left
  · intro w' hS'
    (try dsimp only at hS')
    go_simp <;> with_reducible rfl
  try simp only [Act.put, List.setIfInBounds_toArray, List.set_cons_zero, List.set_cons_succ]
  refine wpAnyS_take (i := 30) (v := ?_) rfl (by kernel_rfl) (fun _ _ _ h => h) (by rfl) hSb ?_ ?_
  rotate_left
  · intro w' hS'
    (try dsimp only at hS')
    go_simp <;> with_reducible rfl
  try simp only [Act.put, List.setIfInBounds_toArray, List.set_cons_zero, List.set_cons_succ]
  refine wpAnyS_take (i := 31) (v := ?_) rfl (by kernel_rfl) (fun _ _ _ h => h) (by rfl) hSb ?_ ?_
  rotate_left
  · intro w' hS'
    (try dsimp only at hS')
    go_simp <;> with_reducible rfl
  try simp only [Act.put, List.setIfInBounds_toArray, List.set_cons_zero, List.set_cons_succ]
  refine wpAnyS_take (i := 33) (v := ?_) rfl (by kernel_rfl) (fun _ _ _ h => h) (by rfl) hSb ?_ ?_
  rotate_left
  · intro w' hS'
    (try dsimp only at hS')
    go_simp <;> with_reducible rfl
  try simp only [Act.put, List.setIfInBounds_toArray, List.set_cons_zero, List.set_cons_succ]
  refine wpAnyS_take (i := 34) (v := ?_) rfl (by kernel_rfl) (fun _ _ _ h => h) (by rfl) hSb ?_ ?_
  rotate_left
  · intro w' hS'
    (try dsimp only at hS')
    go_simp <;> with_reducible rfl
  try simp only [Act.put, List.setIfInBounds_toArray, List.set_cons_zero, List.set_cons_succ]
  refine wpAnyS_one (i := 32) rfl (by kernel_rfl) (by decide) (by rfl) fun K hK => ?_
  go_simp
  refine (uclean_any _ ((HL.out.fr0 HF2.out).fr0 hSb.fr) ((HR.out.fr0 HF2.out).fr0 hSb.fr) hg hf (by omega) HWF.out).mono ?_
  rintro e w4 ⟨cb, Sc, rfl, hcr, hcn, hf4⟩
  have hSc := hSb.next hf4
  have HCR := Lib.hid hcr
  refine hK.out _ _ hSc ?_
  clear hK K hcr hcn
  try simp only [Act.put, List.setIfInBounds_toArray, List.set_cons_zero, List.set_cons_succ]
  refine wpAnyS_one (i := 35) rfl (by kernel_rfl) (by decide) (by rfl) fun K hK => ?_
  go_simp
  refine (dclean_any _ ((HD.out.fr HF2.out fun _ _ h => h).fr hSc.fr fun _ _ h => h) ((HQ.out.fr0 HF2.out).fr0 hSc.fr) hg hf (by omega)).mono ?_
  rintro e w5 ⟨cq, Sq2, rfl, hqr, hqn, hf5⟩
  rw [HLE.out] at hqr
  have hSd := hSc.next hf5
  have HQR := Lib.hid hqr
  refine hK.out _ _ hSd ?_
  clear hK K hqr hqn
  try simp only [Act.put, List.setIfInBounds_toArray, List.set_cons_zero, List.set_cons_succ]
  refine wpAnyS_one (i := 36) rfl (by kernel_rfl) (by decide) (by rfl) fun K hK => ?_
  go_simp
  have hgc := good_undos (cleanSeq L) hg hf (by have := seqTo_len L (keysL L) ((keysL_inc L).imp fun h => by omega); unfold cleanSeq; omega)
  refine (lsame_any _ (HCR.out.fr0 hf5) HQR.out hgc.1 hgc.2 (by have := seqTo_len L (keysL L) ((keysL_inc L).imp fun h => by omega); unfold cleanSeq; omega)).mono ?_
  rintro e w6 ⟨rfl, hf6⟩
  have hSe := hSd.next hf6
  refine hK.out _ _ hSe ?_
  clear hK K
  try simp only [Act.put, List.setIfInBounds_toArray, List.set_cons_zero, List.set_cons_succ]
  refine wpAnyS_take (i := 37) (v := ?_) rfl (by kernel_rfl) (fun _ _ _ h => h) (by rfl) hSe ?_ ?_
  rotate_left
  · intro w' hS'
    (try dsimp only at hS')
    go_simp <;> with_reducible rfl
  try simp only [Act.put, List.setIfInBounds_toArray, List.set_cons_zero, List.set_cons_succ]
  have HF6 := Lib.hid hSe.fr
  clear hSa hSb hSc hSd hSe hf3 hf4 hf5 hf6 hgc k1
  refine wpAnyS_last (i := 38) rfl (by kernel_rfl) (by decide) (by kernel_rfl) (by rfl) fun K hK => ?_
  go_simp
  refine hK.out _ _ ?_
  clear hK K
  have HN6 := Lib.hid (HT2.out.fr HF6.out)
  have HO6 := Lib.hid (Fr.own HF6.out HO2.out fun _ _ h => h)
  have HLO : Hid (∀ k, (Value.slice ao go.length co).ownBlock = some k → k < w1.heap.size) := HOB.out
  go_wp2_with fail
  go_loopw [13] (fun vi wr => ∃ i : Nat, i ≤ n ∧ vi = .int .i64 i ∧ Fr w6 wr (Spoilt gt i)) (fun vi _ => n - (intOf vi).toNat)
  case atStart => exact ⟨0, by omega, rfl, Fr.refl _ _⟩
  case round =>
    obtain ⟨i, hi, rfl, hf⟩ := hrel
    have HFi := Lib.hid hf
    have HFw := Lib.hid (spoilt_w (HF2.out.trans0 HF6.out) HN6.out HS1.out hf)
    obtain ⟨wo, rfl⟩ : ∃ wo : World, wo = wr := ⟨_, rfl⟩
    clear hf
    by_cases hlt : i < n
    · have hii : (i : Int) < (n : Int) := by omega
      obtain ⟨r, hr⟩ : ∃ r, gt[i]? = some r := ⟨_, List.getElem?_eq_getElem (show i < gt.length by rw [HGT.out]; exact hlt)⟩
      obtain ⟨d, hd⟩ : ∃ d, go[i]? = some d := ⟨_, List.getElem?_eq_getElem (show i < go.length by rw [HGO.out]; exact hlt)⟩
      have hkc : r.key = d.key ∧ r.cols = [d.table] := by
        have h1 : (rowsOf gt)[i]? = some (r.key, r.cols) := by unfold rowsOf; rw [List.getElem?_map, hr]; rfl
        rw [HRT.out, ← HGM.out, List.getElem?_map, List.getElem?_map, hd] at h1
        have h2 := Option.some.inj h1
        exact ⟨(congrArg Prod.fst h2).symm, (congrArg Prod.snd h2).symm⟩
      obtain ⟨hk1, hk2⟩ := hkc
      obtain ⟨b, capb, hlv, _⟩ : ∃ b cap, Value.slice at2 gt.length ct = .slice (some ⟨b, 0, none⟩) gt.length cap ∧ True := by
        rcases HN6.out.rl.shape with ⟨_, h2⟩ | ⟨b, cap, h1, _⟩
        · rw [h2] at hr; simp at hr
        · exact ⟨b, cap, h1, trivial⟩
      simp only [Value.slice.injEq, true_and] at hlv
      obtain ⟨rfl, rfl⟩ := hlv
      obtain ⟨p0, p1, hown⟩ := spoilt_row HN6.out HFi.out hr
      rw [hk1] at p0
      rw [hk2] at hown
      obtain ⟨bc, cc, hcv, _⟩ := hown.form (by simp)
      have hcv2 : r.cv = .slice (some ⟨bc, 0, none⟩) 1 cc := hcv
      rw [hcv2] at p1 hown
      have t0 := hown.cell rfl 0 (by simp)
      have t1 := hown.free rfl 0
      have t2 : wo.cell? ⟨bc, 0, none⟩ = some (.int .i64 d.table) := t0
      have hof := Fr.own HFi.out HO6.out fun k hk hs => by have := (spoilt_new HN6.out (spoilt_mono (j := gt.length) (by rw [HGT.out]; omega) k hs)).1; have := HLO.out k hk; omega
      obtain ⟨bo, oo, coo, hov, p3, p4⟩ := own_at_cells hof hd
      simp only [Value.slice.injEq, true_and] at hov
      obtain ⟨rfl, rfl⟩ := hov
      have HRr := Lib.hid hr
      have HCV := Lib.hid hcv2
      clear hr hd hk1 hk2 hcv hown t0 hof hcv2
      go_wp2_with fail
      go_quiet (fail)
      rename_i nq
      go_wp2_with fail
      have hst : Fr wo ((wo.drewN nq).setCell ⟨bc, 0, none⟩ (.int .i64 9)) (fun k => r.cv.ownBlock = some k ∨ w6.heap.size ≤ k) := ((Fr.refl wo _).drewN nq).trans (Fr.store (wo.drewN nq) bc 0 (.int .i64 9)) fun j _ e => .inl (by have e : j = bc := e; rw [e, HCV.out]; rfl)
      have HFn := Lib.hid (spoilt_step HRr.out HFi.out hst)
      clear hst
      go_roundw
      case rel => exact ⟨i + 1, by omega, by go_num, HFn.out⟩
      case measure => simp [intOf]; omega
    · have hii : ¬ (i : Int) < (n : Int) := by omega
      go_wp2_with fail
      go_ret
      exact ⟨rfl, HFw.out⟩
end Go.Proofs.Ytjpenaodkfljhaa
