/-
  Walk of same (interlocklaw14): rows that are the model's.
  Walk of tells (interlocklaw14): the log tells what the document's does; what is told is spoilt.
  The document's log and rows as things that lie apart.
-/
import Derived.Test.YtjpenaodkfljhaaUgClean
import Derived.Test.YtjpenaodkfljhaaRwTellsP
import Derived.BigRegion
import Derived.Test.YtjpenaodkfljhaaSink
import Derived.Test.YtjpenaodkfljhaaUdInv
namespace Go.Proofs.Ytjpenaodkfljhaa
open Go Go.RowKit

set_option maxRecDepth 100000 in
set_option maxHeartbeats 4000000 in
theorem lsame_any {rb qb : Nat} {M : List MTab} {S T : Nat → Prop} {B : Nat} (w : World) (h : Rws w rb M S) (hq : RefAt w qb (colsN M) (flatM M) T) (hg : Good M) (hfew : Few B M) (hB : B ≤ 1000) :
    Calls Try.prog 74 #[rptr rb, rptr qb] w fun e w' => e = .returned (.bool true) ∧ Fr w w' Nil := by
  have HQ := Lib.hid (qok_flat hg hfew hB)
  have HG := Lib.hid hg
  have H := Lib.hid h
  have hNL : (colsN M).length = M.length := by simp [colsN]
  have hML : M.length ≤ 64 := hg.few
  obtain ⟨nv, lvq, gq, hr, hgq⟩ := hq
  obtain ⟨an, cn, hnv⟩ := hr.n.shape
  rw [hnv, hNL] at hr
  have HR := Lib.hid hr
  have HGQ := Lib.hid hgq
  have q0 := hr.root.cell 0
  clear h hg hfew hnv hr hgq hNL
  go_enter Try.func74, Try.ntmps74
  go_wp2_with fail
  go_region_held3 (fun w' => w'.cell? ⟨qb, 0, none⟩ = some (.slice an M.length cn))
    (first | go_keep | exact hS5)
    (first | (go_at_call 90; refine (api_tables (H.out.fr0 ((Fr.refl w Nil).drew)) HG.out).mono ?_; rintro e w5 ⟨rfl, rfl⟩; have hS5 := q0))
  go_wp2_with fail
  clear hS5
  go_loopw [5] (fun vt wr => ∃ t : Nat, t ≤ M.length ∧ vt = .int .i64 t ∧ Fr w wr Nil) (fun vt _ => (M.length - (intOf vt).toNat))
  case atStart => exact ⟨0, by omega, rfl, (Fr.refl w Nil).drew⟩
  case round =>
    obtain ⟨t, ht, rfl, hf⟩ := hrel
    have HF := Lib.hid hf
    have q1 := hf.cell q0 (fun h => h)
    clear hf
    by_cases hlt : t < M.length
    · have htt : (t : Int) < (M.length : Int) := by omega
      go_wp2_with fail
      refine (api_all (t : Int) (H.out.fr0 HF.out) HG.out).mono ?_
      rintro e w4 ⟨al, cl, g, rfl, hN, hrows, hf⟩
      have HF4 := Lib.hid (HF.out.trans0 hf)
      have HN := Lib.hid hN
      have Hrows := Lib.hid hrows
      clear hf HF hN hrows
      go_wp2_with fail
      refine (rall_any (t : Int) _ (HR.out.fr0 HF4.out) (by have := HQ.out.l; rw [← HGQ.out] at this; simpa [qrows] using this)).mono ?_
      rintro e w5 ⟨aq, cq, g2, rfl, hS, hq2⟩
      rw [HGQ.out, rel_all] at hq2
      have hl2 := tells_len Hrows.out hq2
      have HF5 := Lib.hid (HF4.out.trans0 hS.fr)
      have HN5 := Lib.hid (HN.out.fr hS.fr)
      have HQ5 := Lib.hid hS.l
      have HQ2 := Lib.hid hq2
      have hgl2 := Lib.hid hl2.1
      have hne : ((g.length : Int) != (g2.length : Int)) = false := by rw [bne_eq_false_iff_eq]; have := hgl2.out; omega
      have hgl : g.length ≤ 1000000 := by have := (HG.out.at t).few; rw [← Hrows.out] at this; simpa [rowsOf] using this
      clear hS hq2 hl2 HN HF4
      go_wp2_with fail
      go_loopw [8] (fun vi wr => ∃ i : Nat, i ≤ g.length ∧ vi = .int .i64 i ∧ Fr w5 wr Nil) (fun vi _ => g.length - (intOf vi).toNat)
      case atStart => exact ⟨0, by omega, rfl, Fr.refl _ _⟩
      case round =>
        obtain ⟨i, hi, rfl, hf⟩ := hrel
        have HF := Lib.hid hf
        clear hf
        by_cases hli : i < g.length
        · have hr := List.getElem?_eq_getElem hli
          have hli2 : i < g2.length := by have := hgl2.out; omega
          have hq := List.getElem?_eq_getElem hli2
          generalize g[i] = r at hr
          generalize g2[i] = q at hq
          obtain ⟨b, capb, hlv, _⟩ : ∃ b cap, Value.slice al g.length cl = .slice (some ⟨b, 0, none⟩) g.length cap ∧ True := by
            rcases HN5.out.rl.shape with ⟨_, h2⟩ | ⟨b, cap, h1, _⟩
            · rw [h2] at hli; simp at hli
            · exact ⟨b, cap, h1, trivial⟩
          simp only [Value.slice.injEq, true_and] at hlv
          obtain ⟨rfl, rfl⟩ := hlv
          have hN6 := HN5.out.fr HF.out
          have p0 := hN6.rl.key i r hr
          have p1 := hN6.rl.cv i r hr
          have hown := hN6.rl.cols r (List.mem_of_getElem? hr)
          have hql := HQ5.out.fr0 HF.out
          obtain ⟨bq, oq, cq2, hqv, _, p3, p4⟩ := hql.cells hq
          simp only [Value.slice.injEq, true_and] at hqv
          obtain ⟨rfl, rfl⟩ := hqv
          obtain ⟨hk1, hk2, _, hcl⟩ := tells_row HG.out Hrows.out HQ2.out hr hq
          have hqc := hql.cols q (List.mem_of_getElem? hq)
          rw [hk2] at hqc
          rw [hk1] at p3
          obtain ⟨ac, cc, hcv⟩ := hown.shape
          obtain ⟨aqc, cqc, hqcv⟩ := hqc.shape
          rw [hcv] at p1 hown
          rw [hqcv] at p4 hqc
          have HOW := Lib.hid hown.at
          have HQC := Lib.hid hqc
          have hi1 : (i : Int) < (g.length : Int) := by omega
          have hi2 : (i : Int) < (g2.length : Int) := by omega
          obtain ⟨wo, rfl⟩ : ∃ wo : World, wo = wr := ⟨_, rfl⟩
          clear hr hq hown hql hk1 hk2 hqc hcv hqcv hN6
          go_wp2_with fail
          go_quiet (fail)
          rename_i nq
          go_wp2_with fail
          go_loopw [9] (fun vc wr => ∃ c : Nat, c ≤ r.cols.length ∧ vc = .int .i64 c ∧ Fr wo wr Nil) (fun vc _ => r.cols.length - (intOf vc).toNat)
          case atStart => exact ⟨0, by omega, rfl, (Fr.refl _ _).drewN _⟩
          case round =>
            obtain ⟨c, hc, rfl, hf⟩ := hrel
            have HFc := Lib.hid hf
            have z0 := hf.cell p0 fun h => h
            have z1 := hf.cell p1 fun h => h
            have z3 := hf.cell p3 fun h => h
            have z4 := hf.cell p4 fun h => h
            by_cases hlc : c < r.cols.length
            · have hcg := List.getElem?_eq_getElem hlc
              generalize r.cols[c] = x at hcg
              obtain ⟨b1, o1, c1, hv1, e1⟩ := HOW.out.form (by omega)
              simp only [Value.slice.injEq, true_and] at hv1
              obtain ⟨rfl, rfl⟩ := hv1
              obtain ⟨b2, o2, c2, hv2, e2⟩ := HQC.out.form (by omega)
              simp only [Value.slice.injEq, true_and] at hv2
              obtain ⟨rfl, rfl⟩ := hv2
              have t1 := hf.cell (e1 c x hcg) fun h => h
              have t2 := hf.cell (e2 c x hcg) fun h => h
              have hci : (c : Int) < (r.cols.length : Int) := by omega
              clear e1 e2 hcg hf p0 p1 p3 p4 z0 z3
              go_wp2_with fail
              go_quiet (fail)
              rename_i nq2
              go_wp2_with fail
              go_roundw
              case rel => exact ⟨c + 1, by omega, by go_num, HFc.out.drewN _⟩
              case measure => simp [intOf]; omega
            · have hci : ¬ (c : Int) < (r.cols.length : Int) := by omega
              clear hf p0 p1 p3 p4
              go_wp2_with fail
              go_roundw
              case rel => exact ⟨i + 1, by omega, by go_num, HF.out.trans0 HFc.out⟩
              case measure => simp [intOf]; omega
        · have hi1 : ¬ (i : Int) < (g.length : Int) := by omega
          go_wp2_with fail
          go_roundw
          case rel => exact ⟨t + 1, by omega, by go_num, HF5.out.trans0 HF.out⟩
          case measure => simp [intOf]; omega
    · have htt : ¬ (t : Int) < (M.length : Int) := by omega
      go_wp2_with fail
      go_ret
      exact ⟨rfl, HF.out⟩
end Go.Proofs.Ytjpenaodkfljhaa
namespace Go.Proofs.Ytjpenaodkfljhaa
open Go Go.RowKit

theorem own_at_cells {w : World} {v : Value} {g : List DEnt} (h : w.ownsRow 0 133 5 v g.length (dvals g)) {i : Nat} {r : DEnt} (hr : g[i]? = some r) :
    ∃ b off cap, v = .slice (some ⟨b, off, none⟩) g.length cap ∧ w.cell? ⟨b, off + i * 5 + 1, none⟩ = some (.int .i64 r.table) ∧ w.cell? ⟨b, off + i * 5 + 2, none⟩ = some (.int .i64 r.key) := by
  have hi := (List.getElem?_eq_some_iff.1 hr).1
  obtain ⟨b, off, cap, rfl, hc⟩ := flat_form (f := DEnt.vals) (n := 5) (fun _ => rfl) (by decide) (SlAt.of_own h).1 (by omega)
  exact ⟨b, off, cap, rfl, hc i r hr 1 _ rfl, hc i r hr 2 _ rfl⟩
set_option maxRecDepth 100000 in
set_option maxHeartbeats 4000000 in
theorem utells_any {lb db rb qb N : Nat} {most : Int} {lv : Value} {gd : List DEnt} {L : List (Int × Ent)} {M : List MTab} {S Sr Sq : Nat → Prop} (who : Int) (w : World) (h : LogAt w lb most L S) (hd : DLogG w db most lv gd) (hL : dmods gd = L) (hr : Rws w rb M Sr) (hq : RefAt w qb (colsN M) (flatM M) Sq)
    (hg : Good M) (hf : Few N M) (hN : N + L.length < 800) (hw : (Lit.int .i64 who).wf = true) (hwf : ∀ p ∈ L, (Lit.int .i64 p.1).wf = true) :
    Calls Try.prog 30 #[lptr lb, rptr db, rptr rb, rptr qb, .int .i64 who] w fun e w' => e = .returned (.bool true) ∧ Fr w w' Nil := by
  have hgl : gd.length = L.length := by rw [← hL, dmods_len]
  obtain ⟨a, c, rfl, hc⟩ := hd.shape
  have HL := Lib.hid h
  have HD := Lib.hid hd
  have HR := Lib.hid hr
  have HQ := Lib.hid hq
  have HLE := Lib.hid hL
  have HWF := Lib.hid hwf
  have HOLL : Hid ((ofL L who).length ≤ L.length) := ofL_len L who
  have q1 := hd.root.cell 1
  simp only [List.getElem?_cons_zero, List.getElem?_cons_succ] at q1
  clear h hd hr hq hwf
  obtain ⟨n, hn⟩ : ∃ n, (ofL L who).length = n := ⟨_, rfl⟩
  have hn8 : n ≤ 800 := by have := HOLL.out; omega
  have HNN := Lib.hid hn
  clear hn
  go_enter Try.func30, Try.ntmps30
  go_wp2_with fail
  refine (dof_any who _ HD.out (by omega)).mono ?_
  rintro e w1 ⟨ao, co, rfl, ho, hnew, hf1⟩
  have hgm := dmods_of gd who
  rw [hL] at hgm
  generalize gd.filter (fun e => e.who == who) = go at ho hnew hgm
  have hgol : go.length = n := by rw [← HNN.out, ← hgm, List.length_map]
  rw [hgol]
  have HGO := Lib.hid hgol
  have HGM := Lib.hid hgm
  have HO1 := Lib.hid ho
  have HOB : Hid (∀ k, (Value.slice ao go.length co).ownBlock = some k → k < w1.heap.size) := fun k hk => (World.ownsRow.lt ho k hk).2
  have HF1 := Lib.hid hf1
  clear hgm ho hnew hf1 hgol
  go_wp2_with fail
  refine (utouched_any who _ (HL.out.fr0 HF1.out) hw (by omega)).mono ?_
  rintro e w2 ⟨at2, ct, gt, rfl, hNt, hrt, hf2⟩
  have hgtl : gt.length = n := by have := congrArg List.length hrt; rw [← HNN.out]; simpa [rowsOf] using this
  rw [hgtl]
  have HGT := Lib.hid hgtl
  have HF2 := Lib.hid (HF1.out.trans0 hf2)
  have HO2 := Lib.hid (Fr.own hf2 HO1.out fun _ _ h => h)
  have HT2 := Lib.hid hNt
  have HRT := Lib.hid hrt
  have HS1 : Hid (w.heap.size ≤ w1.heap.size) := HF1.out.size
  have k1 := KeptF.cell (HF2.out.cell q1 fun h => h)
  rw [hgl] at k1
  clear hf2 hNt hrt q1 HO1 hgtl
  go_wp2_with fail
  refine wp_region_sink 38 (KeptF w2) (by kernel_rfl) ?_
  have hSa : KeptF w2 w2.drew := KeptF.start _
  refine wpAnyS_take (i := 0) (v := ?_) rfl (by kernel_rfl) (fun _ _ _ h => h) (by rfl) hSa ?_ ?_
  rotate_left
  · intro w' hS'
    (try dsimp only at hS')
    go_simp <;> with_reducible rfl
  try simp only [Act.put, List.setIfInBounds_toArray, List.set_cons_zero, List.set_cons_succ]
  refine wpAnyS_take (i := 2) (v := ?_) rfl (by kernel_rfl) (fun _ _ _ h => h) (by rfl) hSa ?_ ?_
  rotate_left
  · intro w' hS'
    (try dsimp only at hS')
    go_simp <;> with_reducible rfl
  try simp only [Act.put, List.setIfInBounds_toArray, List.set_cons_zero, List.set_cons_succ]
  refine wpAnyS_take (i := 3) (v := ?_) rfl (by kernel_rfl) (fun _ _ _ h => h) (by rfl) hSa ?_ ?_
  rotate_left
  · intro w' hS'
    (try dsimp only at hS')
    go_simp <;> with_reducible rfl
  try simp only [Act.put, List.setIfInBounds_toArray, List.set_cons_zero, List.set_cons_succ]
  refine wpAnyS_take (i := 4) (v := ?_) rfl (by kernel_rfl) (fun _ _ _ h => h) (by rfl) hSa ?_ ?_
  rotate_left
  · intro w' hS'
    (try dsimp only at hS')
    go_simp <;> with_reducible rfl
  try simp only [Act.put, List.setIfInBounds_toArray, List.set_cons_zero, List.set_cons_succ]
  refine wpAnyS_take (i := 5) (v := ?_) rfl (by kernel_rfl) (fun _ _ _ h => h) (by rfl) hSa ?_ ?_
  rotate_left
  · intro w' hS'
    have ck1 := k1 _ hS'
    go_simp <;> with_reducible rfl
  try simp only [Act.put, List.setIfInBounds_toArray, List.set_cons_zero, List.set_cons_succ]
  refine wpAnyS_take (i := 6) (v := ?_) rfl (by kernel_rfl) (fun _ _ _ h => h) (by rfl) hSa ?_ ?_
  rotate_left
  · intro w' hS'
    (try dsimp only at hS')
    go_simp <;> with_reducible rfl
  try simp only [Act.put, List.setIfInBounds_toArray, List.set_cons_zero, List.set_cons_succ]
  refine wpAnyS_one (i := 1) rfl (by kernel_rfl) (by decide) (by rfl) fun K hK => ?_
  go_simp
  refine (uused_any _ ((HL.out.fr0 HF2.out).fr0 hSa.fr)).mono ?_
  rintro e w3 ⟨rfl, rfl⟩
  refine hK.out _ _ hSa ?_
  clear hK K
  try simp only [Act.put, List.setIfInBounds_toArray, List.set_cons_zero, List.set_cons_succ]
  refine wpAnyS_take (i := 7) (v := ?_) rfl (by kernel_rfl) (fun _ _ _ h => h) (by rfl) hSa ?_ ?_
  rotate_left
  · intro w' hS'
    (try dsimp only at hS')
    go_simp <;> with_reducible rfl
  try simp only [Act.put, List.setIfInBounds_toArray, List.set_cons_zero, List.set_cons_succ]
  refine wpAnyS_take (i := 8) (v := ?_) rfl (by kernel_rfl) (fun _ _ _ h => h) (by rfl) hSa ?_ ?_
  rotate_left
  · intro w' hS'
    (try dsimp only at hS')
    go_simp <;> with_reducible rfl
  try simp only [Act.put, List.setIfInBounds_toArray, List.set_cons_zero, List.set_cons_succ]
  refine wpAnyS_take (i := 9) (v := ?_) rfl (by kernel_rfl) (fun _ _ _ h => h) (by rfl) hSa ?_ ?_
  rotate_left
  · intro w' hS'
    (try dsimp only at hS')
    go_simp <;> with_reducible rfl
  try simp only [Act.put, List.setIfInBounds_toArray, List.set_cons_zero, List.set_cons_succ]
  refine wpAnyS_take (i := 10) (v := ?_) rfl (by kernel_rfl) (fun _ _ _ h => h) (by rfl) hSa ?_ ?_
  rotate_left
  · intro w' hS'
    (try dsimp only at hS')
    go_simp <;> with_reducible rfl
  try simp only [Act.put, List.setIfInBounds_toArray, List.set_cons_zero, List.set_cons_succ]
  refine wpAnyS_take (i := 12) (v := ?_) rfl (by kernel_rfl) (fun _ _ _ h => h) (by rfl) hSa ?_ ?_
  rotate_left
  · intro w' hS'
    (try dsimp only at hS')
    go_simp <;> with_reducible rfl
  try simp only [Act.put, List.setIfInBounds_toArray, List.set_cons_zero, List.set_cons_succ]
  refine wpAnyS_take (i := 13) (v := ?_) rfl (by kernel_rfl) (fun _ _ _ h => h) (by rfl) hSa ?_ ?_
  rotate_left
  · intro w' hS'
    (try dsimp only at hS')
    go_simp <;> with_reducible rfl
  try simp only [Act.put, List.setIfInBounds_toArray, List.set_cons_zero, List.set_cons_succ]
  refine wpAnyS_one (i := 11) rfl (by kernel_rfl) (by decide) (by rfl) fun K hK => ?_
  go_simp
  refine (ulen_any who _ ((HL.out.fr0 HF2.out).fr0 hSa.fr) hw).mono ?_
  rintro e w3 ⟨rfl, rfl⟩
  rw [HNN.out]
  refine hK.out _ _ hSa ?_
  clear hK K
  try simp only [Act.put, List.setIfInBounds_toArray, List.set_cons_zero, List.set_cons_succ]
  refine wpAnyS_take (i := 14) (v := ?_) rfl (by kernel_rfl) (fun _ _ _ h => h) (by rfl) hSa ?_ ?_
  rotate_left
  · intro w' hS'
    (try dsimp only at hS')
    go_simp <;> with_reducible rfl
  try simp only [Act.put, List.setIfInBounds_toArray, List.set_cons_zero, List.set_cons_succ]
  refine wpAnyS_take (i := 15) (v := ?_) rfl (by kernel_rfl) (fun _ _ _ h => h) (by rfl) hSa ?_ ?_
  rotate_left
  · intro w' hS'
    (try dsimp only at hS')
    go_simp <;> with_reducible rfl
  try simp only [Act.put, List.setIfInBounds_toArray, List.set_cons_zero, List.set_cons_succ]
  refine wpAnyS_take (i := 16) (v := ?_) rfl (by kernel_rfl) (fun _ _ _ h => h) (by rfl) hSa ?_ ?_
  rotate_left
  · intro w' hS'
    (try dsimp only at hS')
    go_simp <;> with_reducible rfl
  try simp only [Act.put, List.setIfInBounds_toArray, List.set_cons_zero, List.set_cons_succ]
  refine wpAnyS_take (i := 17) (v := ?_) rfl (by kernel_rfl) (fun _ _ _ h => h) (by rfl) hSa ?_ ?_
  rotate_left
  · intro w' hS'
    (try dsimp only at hS')
    go_simp <;> with_reducible rfl
  try simp only [Act.put, List.setIfInBounds_toArray, List.set_cons_zero, List.set_cons_succ]
  refine wpAnyS_take (i := 18) (v := ?_) rfl (by kernel_rfl) (fun _ _ _ h => h) (by rfl) hSa ?_ ?_
  rotate_left
  · intro w' hS'
    (try dsimp only at hS')
    go_simp <;> with_reducible rfl
  try simp only [Act.put, List.setIfInBounds_toArray, List.set_cons_zero, List.set_cons_succ]
  refine wpAnyS_take (i := 19) (v := ?_) rfl (by kernel_rfl) (fun _ _ _ h => h) (by rfl) hSa ?_ ?_
  rotate_left
  · intro w' hS'
    (try dsimp only at hS')
    go_simp <;> with_reducible rfl
  try simp only [Act.put, List.setIfInBounds_toArray, List.set_cons_zero, List.set_cons_succ]
  refine wpAnyS_take (i := 20) (v := ?_) rfl (by kernel_rfl) (fun _ _ _ h => h) (by rfl) hSa ?_ ?_
  rotate_left
  · intro w' hS'
    (try dsimp only at hS')
    go_simp <;> with_reducible rfl
  try simp only [Act.put, List.setIfInBounds_toArray, List.set_cons_zero, List.set_cons_succ]
  refine wpAnyS_take (i := 21) (v := ?_) rfl (by kernel_rfl) (fun _ _ _ h => h) (by rfl) hSa ?_ ?_
  rotate_left
  · intro w' hS'
    (try dsimp only at hS')
    go_simp <;> with_reducible rfl
  try simp only [Act.put, List.setIfInBounds_toArray, List.set_cons_zero, List.set_cons_succ]
  refine wpAnyS_take (i := 22) (v := ?_) rfl (by kernel_rfl) (fun _ _ _ h => h) (by rfl) hSa ?_ ?_
  rotate_left
  · intro w' hS'
    (try dsimp only at hS')
    go_simp <;> with_reducible rfl
  try simp only [Act.put, List.setIfInBounds_toArray, List.set_cons_zero, List.set_cons_succ]
  refine wpAnyS_take (i := 23) (v := ?_) rfl (by kernel_rfl) (fun _ _ _ h => h) (by rfl) hSa ?_ ?_
  rotate_left
  · intro w' hS'
    (try dsimp only at hS')
    go_simp <;> with_reducible rfl
  try simp only [Act.put, List.setIfInBounds_toArray, List.set_cons_zero, List.set_cons_succ]
  refine wpAnyS_take (i := 24) (v := ?_) rfl (by kernel_rfl) (fun _ _ _ h => h) (by rfl) hSa ?_ ?_
  rotate_left
  · intro w' hS'
    (try dsimp only at hS')
    go_simp <;> with_reducible rfl
  try simp only [Act.put, List.setIfInBounds_toArray, List.set_cons_zero, List.set_cons_succ]
  refine wpAnyS_take (i := 25) (v := ?_) rfl (by kernel_rfl) (fun _ _ _ h => h) (by rfl) hSa ?_ ?_
  rotate_left
  · intro w' hS'
    (try dsimp only at hS')
    go_simp <;> with_reducible rfl
  try simp only [Act.put, List.setIfInBounds_toArray, List.set_cons_zero, List.set_cons_succ]
  refine wpAnyS_one (i := 26) rfl (by kernel_rfl) (by decide) (by rfl) fun K hK => ?_
  go_simp
  refine (lsame_any _ ((HR.out.fr0 HF2.out).fr0 hSa.fr) ((HQ.out.fr0 HF2.out).fr0 hSa.fr) hg hf (by omega)).mono ?_
  rintro e w3 ⟨rfl, hf3⟩
  have hSb := hSa.next hf3
  refine hK.out _ _ hSb ?_
  clear hK K
  try simp only [Act.put, List.setIfInBounds_toArray, List.set_cons_zero, List.set_cons_succ]
  refine wpAnyS_take (i := 27) (v := ?_) rfl (by kernel_rfl) (fun _ _ _ h => h) (by rfl) hSb ?_ ?_
  rotate_left
  · intro w' hS'
    (try dsimp only at hS')
    go_simp <;> with_reducible rfl
  try simp only [Act.put, List.setIfInBounds_toArray, List.set_cons_zero, List.set_cons_succ]
  refine wpAnyS_take (i := 28) (v := ?_) rfl (by kernel_rfl) (fun _ _ _ h => h) (by rfl) hSb ?_ ?_
  rotate_left
  · intro w' hS'
    (try dsimp only at hS')
    go_simp <;> with_reducible rfl
  try simp only [Act.put, List.setIfInBounds_toArray, List.set_cons_zero, List.set_cons_succ]
  refine wpAnyS_take (i := 29) (v := ?_) rfl (by kernel_rfl) (fun _ _ _ h => h) (by rfl) hSb ?_ ?_
  rotate_left
  · intro w' hS'
    (try dsimp only at hS')
    go_simp <;> with_reducible rfl
  try simp only [Act.put, List.setIfInBounds_toArray, List.set_cons_zero, List.set_cons_succ]
  refine wpAnyS_take (i := 30) (v := ?_) rfl (by kernel_rfl) (fun _ _ _ h => h) (by rfl) hSb ?_ ?_
  rotate_left
  · intro w' hS'
    (try dsimp only at hS')
    go_simp <;> with_reducible rfl
  try simp only [Act.put, List.setIfInBounds_toArray, List.set_cons_zero, List.set_cons_succ]
  refine wpAnyS_take (i := 31) (v := ?_) rfl (by kernel_rfl) (fun _ _ _ h => h) (by rfl) hSb ?_ ?_
  rotate_left
  · intro w' hS'
    (try dsimp only at hS')
    go_simp <;> with_reducible rfl
  try simp only [Act.put, List.setIfInBounds_toArray, List.set_cons_zero, List.set_cons_succ]
  refine wpAnyS_take (i := 33) (v := ?_) rfl (by kernel_rfl) (fun _ _ _ h => h) (by rfl) hSb ?_ ?_
  rotate_left
  · intro w' hS'
    (try dsimp only at hS')
    go_simp <;> with_reducible rfl
  try simp only [Act.put, List.setIfInBounds_toArray, List.set_cons_zero, List.set_cons_succ]
  refine wpAnyS_take (i := 34) (v := ?_) rfl (by kernel_rfl) (fun _ _ _ h => h) (by rfl) hSb ?_ ?_
  rotate_left
  · intro w' hS'
    (try dsimp only at hS')
    go_simp <;> with_reducible rfl
  try simp only [Act.put, List.setIfInBounds_toArray, List.set_cons_zero, List.set_cons_succ]
  refine wpAnyS_one (i := 32) rfl (by kernel_rfl) (by decide) (by rfl) fun K hK => ?_
  go_simp
  refine (uclean_any _ ((HL.out.fr0 HF2.out).fr0 hSb.fr) ((HR.out.fr0 HF2.out).fr0 hSb.fr) hg hf (by omega) HWF.out).mono ?_
  rintro e w4 ⟨cb, Sc, rfl, hcr, hcn, hf4⟩
  have hSc := hSb.next hf4
  have HCR := Lib.hid hcr
  refine hK.out _ _ hSc ?_
  clear hK K hcr hcn
  try simp only [Act.put, List.setIfInBounds_toArray, List.set_cons_zero, List.set_cons_succ]
  refine wpAnyS_one (i := 35) rfl (by kernel_rfl) (by decide) (by rfl) fun K hK => ?_
  go_simp
  refine (dclean_any _ ((HD.out.fr HF2.out fun _ _ h => h).fr hSc.fr fun _ _ h => h) ((HQ.out.fr0 HF2.out).fr0 hSc.fr) hg hf (by omega)).mono ?_
  rintro e w5 ⟨cq, Sq2, rfl, hqr, hqn, hf5⟩
  rw [HLE.out] at hqr
  have hSd := hSc.next hf5
  have HQR := Lib.hid hqr
  refine hK.out _ _ hSd ?_
  clear hK K hqr hqn
  try simp only [Act.put, List.setIfInBounds_toArray, List.set_cons_zero, List.set_cons_succ]
  refine wpAnyS_one (i := 36) rfl (by kernel_rfl) (by decide) (by rfl) fun K hK => ?_
  go_simp
  have hgc := good_undos (cleanSeq L) hg hf (by have := seqTo_len L (keysL L) ((keysL_inc L).imp fun h => by omega); unfold cleanSeq; omega)
  refine (lsame_any _ (HCR.out.fr0 hf5) HQR.out hgc.1 hgc.2 (by have := seqTo_len L (keysL L) ((keysL_inc L).imp fun h => by omega); unfold cleanSeq; omega)).mono ?_
  rintro e w6 ⟨rfl, hf6⟩
  have hSe := hSd.next hf6
  refine hK.out _ _ hSe ?_
  clear hK K
  try simp only [Act.put, List.setIfInBounds_toArray, List.set_cons_zero, List.set_cons_succ]
  refine wpAnyS_take (i := 37) (v := ?_) rfl (by kernel_rfl) (fun _ _ _ h => h) (by rfl) hSe ?_ ?_
  rotate_left
  · intro w' hS'
    (try dsimp only at hS')
    go_simp <;> with_reducible rfl
  try simp only [Act.put, List.setIfInBounds_toArray, List.set_cons_zero, List.set_cons_succ]
  have HF6 := Lib.hid hSe.fr
  clear hSa hSb hSc hSd hSe hf3 hf4 hf5 hf6 hgc k1
  refine wpAnyS_last (i := 38) rfl (by kernel_rfl) (by decide) (by kernel_rfl) (by rfl) fun K hK => ?_
  go_simp
  refine hK.out _ _ ?_
  clear hK K
  have HN6 := Lib.hid (HT2.out.fr HF6.out)
  have HO6 := Lib.hid (Fr.own HF6.out HO2.out fun _ _ h => h)
  have HLO : Hid (∀ k, (Value.slice ao go.length co).ownBlock = some k → k < w1.heap.size) := HOB.out
  go_wp2_with fail
  go_loopw [13] (fun vi wr => ∃ i : Nat, i ≤ n ∧ vi = .int .i64 i ∧ Fr w6 wr (Spoilt gt i)) (fun vi _ => n - (intOf vi).toNat)
  case atStart => exact ⟨0, by omega, rfl, Fr.refl _ _⟩
  case round =>
    obtain ⟨i, hi, rfl, hf⟩ := hrel
    have HFi := Lib.hid hf
    have HFw := Lib.hid (spoilt_w (HF2.out.trans0 HF6.out) HN6.out HS1.out hf)
    obtain ⟨wo, rfl⟩ : ∃ wo : World, wo = wr := ⟨_, rfl⟩
    clear hf
    by_cases hlt : i < n
    · have hii : (i : Int) < (n : Int) := by omega
      obtain ⟨r, hr⟩ : ∃ r, gt[i]? = some r := ⟨_, List.getElem?_eq_getElem (show i < gt.length by rw [HGT.out]; exact hlt)⟩
      obtain ⟨d, hd⟩ : ∃ d, go[i]? = some d := ⟨_, List.getElem?_eq_getElem (show i < go.length by rw [HGO.out]; exact hlt)⟩
      have hkc : r.key = d.key ∧ r.cols = [d.table] := by
        have h1 : (rowsOf gt)[i]? = some (r.key, r.cols) := by unfold rowsOf; rw [List.getElem?_map, hr]; rfl
        rw [HRT.out, ← HGM.out, List.getElem?_map, List.getElem?_map, hd] at h1
        have h2 := Option.some.inj h1
        exact ⟨(congrArg Prod.fst h2).symm, (congrArg Prod.snd h2).symm⟩
      obtain ⟨hk1, hk2⟩ := hkc
      obtain ⟨b, capb, hlv, _⟩ : ∃ b cap, Value.slice at2 gt.length ct = .slice (some ⟨b, 0, none⟩) gt.length cap ∧ True := by
        rcases HN6.out.rl.shape with ⟨_, h2⟩ | ⟨b, cap, h1, _⟩
        · rw [h2] at hr; simp at hr
        · exact ⟨b, cap, h1, trivial⟩
      simp only [Value.slice.injEq, true_and] at hlv
      obtain ⟨rfl, rfl⟩ := hlv
      obtain ⟨p0, p1, hown⟩ := spoilt_row HN6.out HFi.out hr
      rw [hk1] at p0
      rw [hk2] at hown
      obtain ⟨bc, cc, hcv, _⟩ := hown.form (by simp)
      have hcv2 : r.cv = .slice (some ⟨bc, 0, none⟩) 1 cc := hcv
      rw [hcv2] at p1 hown
      have t0 := hown.cell rfl 0 (by simp)
      have t1 := hown.free rfl 0
      have t2 : wo.cell? ⟨bc, 0, none⟩ = some (.int .i64 d.table) := t0
      have hof := Fr.own HFi.out HO6.out fun k hk hs => by have := (spoilt_new HN6.out (spoilt_mono (j := gt.length) (by rw [HGT.out]; omega) k hs)).1; have := HLO.out k hk; omega
      obtain ⟨bo, oo, coo, hov, p3, p4⟩ := own_at_cells hof hd
      simp only [Value.slice.injEq, true_and] at hov
      obtain ⟨rfl, rfl⟩ := hov
      have HRr := Lib.hid hr
      have HCV := Lib.hid hcv2
      clear hr hd hk1 hk2 hcv hown t0 hof hcv2
      go_wp2_with fail
      go_quiet (fail)
      rename_i nq
      go_wp2_with fail
      have hst : Fr wo ((wo.drewN nq).setCell ⟨bc, 0, none⟩ (.int .i64 9)) (fun k => r.cv.ownBlock = some k ∨ w6.heap.size ≤ k) := ((Fr.refl wo _).drewN nq).trans (Fr.store (wo.drewN nq) bc 0 (.int .i64 9)) fun j _ e => .inl (by have e : j = bc := e; rw [e, HCV.out]; rfl)
      have HFn := Lib.hid (spoilt_step HRr.out HFi.out hst)
      clear hst
      go_roundw
      case rel => exact ⟨i + 1, by omega, by go_num, HFn.out⟩
      case measure => simp [intOf]; omega
    · have hii : ¬ (i : Int) < (n : Int) := by omega
      go_wp2_with fail
      go_ret
      exact ⟨rfl, HFw.out⟩
end Go.Proofs.Ytjpenaodkfljhaa
namespace Go.Proofs.Ytjpenaodkfljhaa
open Go Go.RowKit

abbrev refM (qb : Nat) (M : List MTab) : Thing := refT qb (colsN M) (flatM M)
theorem DHas.lt' {w : World} {lb : Nat} {most : Int} {lv : Value} {g : List DEnt} (h : DLogG w lb most lv g) {k : Nat} (hk : DHas lb lv g k) : k < w.heap.size := by
  rcases hk with rfl | hk | ⟨e, he, hk⟩
  · exact h.root.lt
  · exact (World.ownsRow.lt h.own k hk).2
  · exact (h.ok e he).own.lt k hk
theorem DUpd.at {w w' : World} {lb : Nat} {most : Int} {lv : Value} {g : List DEnt} {L' : List (Int × Ent)} {S : Nat → Prop} (h : DUpd w lb most lv g L' w') (hS : ∀ k, DHas lb lv g k → S k) (hlt : ∀ k, S k → k < w.heap.size) :
    DLogAt w' lb most L' (Gr S w w') ∧ Fr w w' S := by
  obtain ⟨lv', g', h1, h2, h3, h4⟩ := h
  have hsz := h4.size
  refine ⟨⟨lv', g', h1, h2, fun k hk => ?_, fun k hk => hk.elim (fun h => by have := hlt k h; omega) (·.2)⟩, h4.mono fun k _ hk => ?_⟩
  · rcases h3 k hk with h | h
    · exact .inl (hS k h)
    · exact .inr ⟨h, DHas.lt' h1 hk⟩
  · exact hS k (hk.elim .inl fun h => .inr (.inl h))
def ColsNew (t n : Int) (w : World) (e : Ending) (w' : World) : Prop := ∃ v, e = .returned v ∧ IntsAt w' v (colsU t n) ∧ (∀ k, v.ownBlock = some k → w.heap.size ≤ k) ∧ Fr w w' Nil
set_option maxRecDepth 100000 in
set_option maxHeartbeats 1000000 in
theorem cols_new (t n : Int) (w : World) : Calls Try.prog 31 #[.int .i64 t, .int .i64 n] w (ColsNew t n w) := by
  by_cases h0 : t = 0
  · subst h0
    have H := Lib.hid (intsAt_bk (n := 2) (cap := 2) (xs := [n, n]) (Bk.new w 2 #[.int .i64 n, .int .i64 n]) rfl)
    go_enter Try.func31, Try.ntmps31
    go_wp2_with fail
    go_ret
    exact ⟨_, rfl, H.out, (fun k hk => by cases hk; exact Nat.le_refl _), (Fr.refl w Nil).alloc _⟩
  · have H := Lib.hid (intsAt_bk (n := 1) (cap := 1) (xs := [n]) (Bk.new w 2 #[.int .i64 n]) rfl)
    have H0 := Lib.hid h0
    go_enter Try.func31, Try.ntmps31
    go_wp2_with fail
    go_ret
    refine ⟨_, rfl, ?_, (fun k hk => by cases hk; exact Nat.le_refl _), (Fr.refl w Nil).alloc _⟩
    unfold colsU
    rw [if_neg H0.out]
    exact H.out
section
variable {w0 W : World} {l : List Thing}
theorem Lies.qlt (h : Lies w0 W l) {qb : Nat} {M : List MTab} (j : Nat) (hj : l[j]? = some (refM qb M)) : qb < W.heap.size := by
  obtain ⟨S, h1, _⟩ := h.get j _ hj
  exact RefAt.lt h1 _ (ref_in h1)
theorem st_qput (h : Lies w0 W l) {qb N : Nat} {M : List MTab} (j : Nat) (hj : l[j]? = some (refM qb M)) (t k : Int) (v : Value) (xs : List Int) (hg : Good M) (hf : Few N M) (hN : N < 1000) (hv : IntsAt W v xs) (hvb : ∀ k, v.ownBlock = some k → k ≠ qb) (hvl : xs.length ≤ 1000000) :
    Calls Try.prog 46 #[rptr qb, .int .i64 t, .int .i64 k, v] W fun e W' => e = .returned (.bool (qmay (colsN M) t xs)) ∧ Lies w0 W' (l.set j (refM qb (mput M t k xs).1)) := by
  obtain ⟨S, h1, _, h2⟩ := h.get j _ hj
  refine (rput_any t k v xs W h1 (qok_flat hg hf (by omega)) hv (fun _ => hvb) hvl).mono fun _ W' ⟨he, a, b⟩ => ⟨he, ?_⟩
  rw [rel_put hg t k xs (good_put hg hf (by omega) t k xs).1, ← colsN_put M t k xs] at a
  exact h2 W' _ (refM qb (mput M t k xs).1) a (fun k hk => hk.imp id fun h => h.1) (b.mono fun k _ e => by have e : k = qb := e; rw [e]; exact ref_in h1)
theorem st_qdel (h : Lies w0 W l) {qb N : Nat} {M : List MTab} (j : Nat) (hj : l[j]? = some (refM qb M)) (t k : Int) (hg : Good M) (hf : Few N M) (hN : N < 1000) :
    Calls Try.prog 72 #[rptr qb, .int .i64 t, .int .i64 k] W fun e W' => e = .returned (.tuple #[.bool (qhas (flatM M) t k), .bool (qhas (flatM M) t k || decide (0 < qcols (colsN M) t))]) ∧ Lies w0 W' (l.set j (refM qb (mdel M t k).1)) := by
  obtain ⟨S, h1, _, h2⟩ := h.get j _ hj
  refine (rdel_any t k W h1 (qok_flat hg hf (by omega))).mono fun _ W' ⟨he, a, b⟩ => ⟨he, ?_⟩
  rw [rel_del hg t k (good_del hg hf t k).1, ← colsN_del M t k] at a
  exact h2 W' _ (refM qb (mdel M t k).1) a (fun k hk => hk.imp id fun h => h.1) (b.mono fun k _ e => by have e : k = qb := e; rw [e]; exact ref_in h1)
theorem st_dnew (h : Lies w0 W l) (most : Int) : Calls Try.prog 27 #[.int .i64 most] W (StNew w0 l fun b => dlogT b (max 0 most) []) :=
  (dnew_any most W).mono fun _ W' ⟨b, he, hr, hb, hs, hf⟩ => ⟨b, he, h.add (dlogT b (max 0 most) []) (S := fun k => k = b) ⟨_, _, hr, rfl, (fun k hk => by
    rcases hk with rfl | hk | ⟨e, he, _⟩
    · rfl
    · cases hk
    · cases he), fun k hk => by subst hk; omega⟩ (fun k hk => by subst hk; omega) hf⟩
theorem st_dnote (h : Lies w0 W l) {lb qb N : Nat} {most : Int} {L : List (Int × Ent)} {M : List MTab} (i j : Nat) (hi : l[i]? = some (dlogT lb most L)) (hj : l[j]? = some (refM qb M)) (who t k : Int) (hg : Good M) (hf : Few N M) (hN : N < 1000) (hl : L.length ≤ 100000) :
    Calls Try.prog 71 #[rptr lb, .int .i64 who, rptr qb, .int .i64 t, .int .i64 k] W fun e W' => e = .returned (.int .i64 (noteD M most L t)) ∧ Lies w0 W' (l.set i (dlogT lb most (noteL M most L who t k))) := by
  obtain ⟨S, ⟨lv, g, a1, rfl, a3, a4⟩, _, h2⟩ := h.get i _ hi
  obtain ⟨T, b1, _⟩ := h.get j _ hj
  rw [dmods_len] at hl
  refine (dnote_any who t k W a1 b1 hg hf hN hl).mono fun _ W' ⟨he, hu⟩ => ⟨he, ?_⟩
  obtain ⟨c1, c2⟩ := hu.at a3 a4
  exact h2 W' _ (dlogT lb most _) c1 (fun k hk => hk.imp id fun h => h.1) c2
theorem st_dforget (h : Lies w0 W l) {lb : Nat} {most : Int} {L : List (Int × Ent)} (i : Nat) (hi : l[i]? = some (dlogT lb most L)) (who : Int) (hl : L.length ≤ 100000) :
    Calls Try.prog 70 #[rptr lb, .int .i64 who] W fun e W' => e = .returned (.tuple #[]) ∧ Lies w0 W' (l.set i (dlogT lb most (forgetL L who))) := by
  obtain ⟨S, ⟨lv, g, a1, rfl, a3, a4⟩, _, h2⟩ := h.get i _ hi
  rw [dmods_len] at hl
  refine (dforget_any who W a1 hl).mono fun _ W' ⟨he, hu⟩ => ⟨he, ?_⟩
  obtain ⟨c1, c2⟩ := hu.at a3 a4
  exact h2 W' _ (dlogT lb most _) c1 (fun k hk => hk.imp id fun h => h.1) c2
theorem st_dback (h : Lies w0 W l) {lb qb N : Nat} {most : Int} {L : List (Int × Ent)} {M : List MTab} (i j : Nat) (hi : l[i]? = some (dlogT lb most L)) (hj : l[j]? = some (refM qb M)) (hij : i ≠ j) (who : Int) (hg : Good M) (hf : Few N M) (hN : N < 1000) (hl : L.length ≤ 100000) :
    Calls Try.prog 69 #[rptr lb, .int .i64 who, rptr qb] W fun e W' => e = .returned (.bool (!(ofL L who).isEmpty)) ∧ Lies w0 W' ((l.set i (dlogT lb most (backL L who))).set j (refM qb (backM M L who))) := by
  obtain ⟨S, T, ⟨lv, g, a1, rfl, a3, a4⟩, b1, hd, h4⟩ := h.get2 i j _ _ hi hj hij
  rw [dmods_len] at hl
  refine (dback_any who W a1 b1 (fun k hk => hd k (a3 k hk)) hg hf hN hl).mono fun _ W' hb => ?_
  rcases hb with ⟨hn, he, hf2⟩ | ⟨ds, x, hn, he, ⟨lv', g', c1, c2, c3, c4, c5, S', d1, d2, d3⟩, hf2⟩
  · refine ⟨by rw [hn]; exact he, ?_⟩
    rw [back_same hn]
    unfold backM
    rw [hn]
    exact h4 W' S T _ (refM qb M) (DLogAt.fr ⟨lv, g, a1, rfl, a3, a4⟩ hf2 fun _ _ h => h) (RefAt.fr0 b1 hf2) (fun k hk => .inl hk) (fun k hk => .inl hk) hd hf2.of_nil
  · refine ⟨by rw [hn, he]; cases ds <;> rfl, ?_⟩
    unfold backM
    rw [hn, List.getLast?_concat]
    refine h4 W' (DHas lb lv' g') S' (dlogT lb most _) (refM qb (undoE M x)) ⟨lv', g', c1, c2, fun k hk => hk, fun k hk => DHas.lt' c1 hk⟩ d1 (fun k hk => (c3 k hk).imp (a3 k) id) d2 d3 (hf2.mono fun k _ hk => ?_)
    rcases hk with rfl | rfl
    · exact .inl (a3 _ (.inl rfl))
    · exact .inr (ref_in b1)
/-- What tells: nothing is turned. -/
theorem st_tells (h : Lies w0 W l) {lb db rb qb N : Nat} {most : Int} {L : List (Int × Ent)} {M : List MTab} (i1 i2 i3 i4 : Nat) (e1 : l[i1]? = some (logT lb most L)) (e2 : l[i2]? = some (dlogT db most L)) (e3 : l[i3]? = some (rowsT rb M)) (e4 : l[i4]? = some (refM qb M)) (who : Int)
    (hg : Good M) (hf : Few N M) (hN : N + L.length < 800) (hw : (Lit.int .i64 who).wf = true) (hwf : ∀ p ∈ L, (Lit.int .i64 p.1).wf = true) :
    Calls Try.prog 30 #[lptr lb, rptr db, rptr rb, rptr qb, .int .i64 who] W fun e W' => e = .returned (.bool true) ∧ Lies w0 W' l := by
  obtain ⟨S1, a1, _⟩ := h.get i1 _ e1
  obtain ⟨S2, ⟨lv, g, b1, b2, _⟩, _⟩ := h.get i2 _ e2
  obtain ⟨S3, c1, _⟩ := h.get i3 _ e3
  obtain ⟨S4, d1, _⟩ := h.get i4 _ e4
  exact (utells_any who W a1 b1 b2 c1 d1 hg hf hN hw hwf).mono fun _ _ ⟨he, hfr⟩ => ⟨he, h.fr0 hfr⟩
end
end Go.Proofs.Ytjpenaodkfljhaa
