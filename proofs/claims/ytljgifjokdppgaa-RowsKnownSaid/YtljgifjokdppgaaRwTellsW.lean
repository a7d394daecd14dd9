/-
  Walk of tells.
  No condition but sizes.
-/
import Derived.Test.YtljgifjokdppgaaRwTells
import Derived.BigRegion
namespace Go.Proofs.Ytljgifjokdppgaa
open Go Go.RowKit

set_option maxRecDepth 100000 in
set_option maxHeartbeats 1000000 in
theorem tells_any {rb qb : Nat} {M : List MTab} {S T : Nat → Prop} {B : Nat} (w : World) (h : Both w rb qb M S T) (hg : Good M) (hfew : Few B M) (hB : B ≤ 1000) :
    Calls Try.prog 25 #[.pointer (some ⟨rb, 0, none⟩), .pointer (some ⟨qb, 0, none⟩)] w fun e w' => e = .returned (.bool true) ∧ Fr w w' Nil := by
  have HQ := Lib.hid (qok_flat hg hfew hB)
  have HG := Lib.hid hg
  have H := Lib.hid h
  have hNL : (colsN M).length = M.length := by simp [colsN]
  have hML : M.length ≤ 64 := hg.few
  obtain ⟨nv, lvq, gq, hr, hgq⟩ := h.ref
  obtain ⟨an, cn, hnv⟩ := hr.n.shape
  rw [hnv, hNL] at hr
  have HR := Lib.hid hr
  have HGQ := Lib.hid hgq
  have q0 := hr.root.cell 0
  clear h hg hfew hnv hr hgq hNL
  go_enter Try.func25, Try.ntmps25
  go_wp2_with fail
  go_region_held3 (fun w' => w'.cell? ⟨qb, 0, none⟩ = some (.slice an M.length cn))
    (first | go_keep | exact hS5)
    (first | (go_at_call 26; refine (api_tables (H.out.rws.fr0 ((Fr.refl w Nil).drew)) HG.out).mono ?_; rintro e w5 ⟨rfl, rfl⟩; have hS5 := q0))
  go_wp2_with fail
  clear hS5
  go_loopw [5] (fun vt wr => ∃ t : Int, -1 ≤ t ∧ t ≤ M.length + 1 ∧ vt = .int .i64 t ∧ Fr w wr Nil) (fun vt _ => (M.length + 1 - intOf vt).toNat)
  case atStart => exact ⟨-1, by omega, by omega, rfl, (Fr.refl w Nil).drew⟩
  case round =>
    obtain ⟨t, ht0, ht1, rfl, hf⟩ := hrel
    have HF := Lib.hid hf
    have q1 := hf.cell q0 (fun h => h)
    clear hf
    by_cases hlt : t ≤ M.length
    · go_wp2_with fail
      refine (api_cols t (H.out.rws.fr0 HF.out) HG.out).mono ?_
      rintro e w2 ⟨rfl, hf⟩
      have HF2 := Lib.hid (HF.out.trans0 hf)
      clear hf HF q1
      go_wp2_with fail
      refine (rcols_any t _ (H.out.ref.fr0 HF2.out) (by have := HQ.out.n; omega)).mono ?_
      rintro e w3 ⟨he, rfl⟩
      rw [rel_cols] at he
      subst he
      go_wp2_with fail
      go_loopw [6] (fun vk wr => ∃ k : Nat, k ≤ 2 ∧ vk = .int .i64 k ∧ Fr w wr Nil) (fun vk _ => 2 - (intOf vk).toNat)
      case atStart => exact ⟨0, by omega, rfl, HF2.out⟩
      case round =>
        clear HF2
        obtain ⟨k, hk, rfl, hf⟩ := hrel
        have HF := Lib.hid hf
        clear hf
        by_cases hlk : k < 2
        · go_wp2_with fail
          refine (api_all t (H.out.rws.fr0 HF.out) HG.out).mono ?_
          rintro e w4 ⟨al, cl, g, rfl, hN, hrows, hf⟩
          have HF4 := Lib.hid (HF.out.trans0 hf)
          have hws := HF.out.size
          have HN := Lib.hid hN
          have Hrows := Lib.hid hrows
          clear hf HF hN hrows
          go_wp2_with fail
          refine (rall_any t _ (HR.out.fr0 HF4.out) (by have := HQ.out.l; rw [← HGQ.out] at this; simpa [qrows] using this)).mono ?_
          rintro e w5 ⟨aq, cq, g2, rfl, hS, hq2⟩
          rw [HGQ.out, rel_all] at hq2
          have hl2 := tells_len Hrows.out hq2
          have HL := Lib.hid hl2.2
          have HF5 := Lib.hid (HF4.out.trans0 hS.fr)
          have HN5 := Lib.hid (HN.out.fr hS.fr)
          have HQ5 := Lib.hid hS.l
          have HS := Lib.hid hS
          have HQ2 := Lib.hid hq2
          have hgl2 := Lib.hid hl2.1
          have hne : ((g.length : Int) != (g2.length : Int)) = false := by rw [bne_eq_false_iff_eq]; have := hgl2.out; omega
          have hgl : g.length ≤ 1000000 := by have := (HG.out.at t).few; rw [← Hrows.out] at this; simpa [rowsOf] using this
          have HD : Hid (∀ j, Spoilt g g.length j → (Value.slice aq g2.length cq).ownBlock ≠ some j ∧ ∀ x ∈ g2, x.cv.ownBlock ≠ some j) := by
            intro j hj
            have h1 := spoilt_new HN.out hj
            refine ⟨fun e => ?_, fun x hx e => ?_⟩
            · have := hS.new j e; omega
            · have h2 := (HR.out.inC x (hS.sub x hx) j e).1
              have h3 := HR.out.lt j h2
              omega
          clear hS hq2 hl2 HN HF4
          go_wp2_with fail
          refine (api_len t (H.out.rws.fr0 HF5.out) HG.out).mono ?_
          rintro e w6 ⟨rfl, hf⟩
          have HF6 := Lib.hid (HF5.out.trans0 hf)
          have HN6 := Lib.hid (HN5.out.fr hf)
          have HQ6 := Lib.hid (HQ5.out.fr0 hf)
          rw [HL.out]
          clear hf HF5 HN5 HQ5 HS
          go_wp2_with fail
          go_loopw [9] (fun vi wr => ∃ i : Nat, i ≤ g.length ∧ vi = .int .i64 i ∧ Fr w6 wr (Spoilt g i)) (fun vi _ => g.length - (intOf vi).toNat)
          case atStart => exact ⟨0, by omega, rfl, Fr.refl _ _⟩
          case round =>
            obtain ⟨i, hi, rfl, hf⟩ := hrel
            have HF := Lib.hid hf
            have HFw := Lib.hid (spoilt_w HF6.out HN6.out hws hf)
            clear hf
            by_cases hli : i < g.length
            · have hr := List.getElem?_eq_getElem hli
              have hli2 : i < g2.length := by have := hgl2.out; omega
              have hq := List.getElem?_eq_getElem hli2
              generalize g[i] = r at hr
              generalize g2[i] = q at hq
              obtain ⟨b, capb, hlv, _⟩ : ∃ b cap, Value.slice al g.length cl = .slice (some ⟨b, 0, none⟩) g.length cap ∧ True := by
                rcases HN6.out.rl.shape with ⟨_, h2⟩ | ⟨b, cap, h1, _⟩
                · rw [h2] at hli; simp at hli
                · exact ⟨b, cap, h1, trivial⟩
              simp only [Value.slice.injEq, true_and] at hlv
              obtain ⟨rfl, rfl⟩ := hlv
              obtain ⟨p0, p1, hown⟩ := spoilt_row HN6.out HF.out hr
              have hql := spoilt_q HQ6.out HF.out HD.out (by omega)
              obtain ⟨bq, oq, cq2, hqv, _, p3, p4⟩ := hql.cells hq
              simp only [Value.slice.injEq, true_and] at hqv
              obtain ⟨rfl, rfl⟩ := hqv
              obtain ⟨hk1, hk2, hget, hcl⟩ := tells_row HG.out Hrows.out HQ2.out hr hq
              have hqc := hql.cols q (List.mem_of_getElem? hq)
              rw [hk2] at hqc
              rw [hk1] at p3
              obtain ⟨ac, cc, hcv⟩ := hown.shape
              obtain ⟨aqc, cqc, hqcv⟩ := hqc.shape
              rw [hcv] at p1 hown
              rw [hqcv] at p4 hqc
              have HOW := Lib.hid hown
              have HQC := Lib.hid hqc
              have HGET := Lib.hid hget
              have HRr := Lib.hid hr
              have HCV := Lib.hid hcv
              have hi1 : (i : Int) < (g.length : Int) := by omega
              have hi2 : (i : Int) < (g2.length : Int) := by omega
              clear hr hq hown hql hk1 hk2 hget hqc hcv hqcv
              go_wp2_with fail
              refine (api_get t _ (H.out.rws.fr0 HFw.out) HG.out).mono ?_
              rintro e w8 (⟨xs, hxs, ax, cx, rfl, hcl8⟩ | ⟨hno, _⟩)
              rotate_left
              · rw [HGET.out] at hno; cases hno
              obtain rfl : r.cols = xs := Option.some.inj (HGET.out.symm.trans hxs)
              have HX := Lib.hid hcl8.1
              have HXN := Lib.hid hcl8.2.1
              have hf8 := hcl8.2.2
              have HF8 := Lib.hid hf8
              have HOW8 := Lib.hid (HOW.out.fr hf8 fun _ _ h => h)
              have HQC8 := Lib.hid (HQC.out.fr hf8 fun _ _ h => h)
              have y0 := hf8.cell p0 (fun h => h)
              have y1 := hf8.cell p1 (fun h => h)
              have y3 := hf8.cell p3 (fun h => h)
              have y4 := hf8.cell p4 (fun h => h)
              clear hcl8 hf8 hxs p0 p1 p3 p4 HOW HQC
              go_wp2_with fail
              go_region_held3 (fun w' => w'.cell? ⟨b, i * 2, none⟩ = some (.int .i64 r.key) ∧ w'.cell? ⟨b, i * 2 + 1, none⟩ = some (.slice ac r.cols.length cc) ∧ w'.cell? ⟨bq, oq + i * 3 + 1, none⟩ = some (.int .i64 r.key) ∧ w'.cell? ⟨bq, oq + i * 3 + 2, none⟩ = some (.slice aqc r.cols.length cqc))
                (first | go_keep | exact hS6 | exact hS5)
                (first
                  | (have hx9 := hf9; clear hx9; go_at_call 19; refine (sameInts_any (.slice ax r.cols.length cx) (.slice aqc r.cols.length cqc) r.cols r.cols _ ((OwnInts.at HX.out).fr ((Fr.refl w8 Nil).drew.trans0 hf9) fun _ _ h => h) (HQC8.out.fr ((Fr.refl w8 Nil).drew.trans0 hf9) fun _ _ h => h) hcl hcl).mono ?_; rintro e w10 ⟨he10, hf10⟩; rw [decide_eq_true rfl] at he10; subst he10; have hS6 := And.intro (hf10.cell hS5.1 (fun h => h)) (And.intro (hf10.cell hS5.2.1 (fun h => h)) (And.intro (hf10.cell hS5.2.2.1 (fun h => h)) (hf10.cell hS5.2.2.2 (fun h => h)))))
                  | (go_at_call 19; refine (sameInts_any (.slice ac r.cols.length cc) (.slice aqc r.cols.length cqc) r.cols r.cols _ (HOW8.out.at.fr ((Fr.refl w8 Nil).drew) fun _ _ h => h) (HQC8.out.fr ((Fr.refl w8 Nil).drew) fun _ _ h => h) hcl hcl).mono ?_; rintro e w9 ⟨he9, hf9⟩; rw [decide_eq_true rfl] at he9; subst he9; have hS5 := And.intro (hf9.cell y0 (fun h => h)) (And.intro (hf9.cell y1 (fun h => h)) (And.intro (hf9.cell y3 (fun h => h)) (hf9.cell y4 (fun h => h))))))
              have HF10 := Lib.hid ((Fr.refl w8 Nil).drew.trans0 (hf9.trans0 hf10))
              have z1 := hS6.2.1
              clear hf9 hf10 hS5 hS6 y0 y1 y3 y4
              have HXa := Lib.hid (OwnInts.fr HX.out HF10.out fun _ _ h => h)
              have HOa := Lib.hid (OwnInts.fr HOW8.out HF10.out fun _ _ h => h)
              have HNE := Lib.hid (tells_ne HN6.out HF.out HRr.out (HCV.out ▸ rfl : r.cv.ownBlock = (Value.slice ac r.cols.length cc).ownBlock) HXN.out)
              have hc1 : r.cols.length ≤ 1000000 := hcl
              generalize hgn : r.cols.length = n at HXa HOa HNE z1 hc1
              have Hgn := Lib.hid hgn
              clear hgn hcl
              go_wp2_with fail
              go_loopw [12] (fun vc wr5 => ∃ (c : Nat) (ys zs : List Int), c ≤ n ∧ vc = .int .i64 c ∧ ys.length = n ∧ zs.length = n ∧ OwnInts wr5 2 (.slice ax n cx) ys ∧ OwnInts wr5 2 (.slice ac n cc) zs ∧ Fr w10 wr5 (fun j => (Value.slice ax n cx).ownBlock = some j ∨ (Value.slice ac n cc).ownBlock = some j)) (fun vc _ => n - (intOf vc).toNat)
              case atStart => exact ⟨0, r.cols, r.cols, by omega, rfl, Hgn.out, Hgn.out, HXa.out, HOa.out, Fr.refl _ _⟩
              case round =>
                obtain ⟨c, ys, zs, hc, rfl, hy, hz, hoy, hoz, hf⟩ := hrel
                have HY := Lib.hid hy
                have HZ := Lib.hid hz
                have HOY := Lib.hid hoy
                have HOZ := Lib.hid hoz
                have HF11 := Lib.hid hf
                have HZ1 := Lib.hid (hf.cell z1 (fun h => h.elim (fun h => (HNE.out.1 _ h).2 rfl) (fun h => HNE.out.2.1 _ h rfl)))
                clear hy hz hoy hoz hf
                by_cases hlc : c < n
                · obtain ⟨bx, cx2, hxv, _⟩ := HOY.out.form (by have := HY.out; omega)
                  simp only [Value.slice.injEq] at hxv
                  obtain ⟨rfl, -, rfl⟩ := hxv
                  obtain ⟨bc, cc2, hcv2, _⟩ := HOZ.out.form (by have := HZ.out; omega)
                  simp only [Value.slice.injEq] at hcv2
                  obtain ⟨rfl, -, rfl⟩ := hcv2
                  have t0 := HOY.out.cell HY.out.symm c (by have := HY.out; omega)
                  have t1 := HOY.out.free HY.out.symm c
                  generalize ys.getD c 0 = y at t0
                  have HBX : Hid (bx ≠ bc) := fun e => (HNE.out.1 bx rfl).1 (by rw [e]; rfl)
                  have hcn : (c : Int) < (n : Int) := by omega
                  go_wp2_with fail
                  have hfs := Fr.store wr bx c (.int .i64 (wrap64 (y + 1)))
                  have HOY2 := Lib.hid (HOY.out.set HY.out.symm c (wrap64 (y + 1)))
                  have HOZ2 := Lib.hid (HOZ.out.fr hfs fun j hj e => HBX.out (by cases hj; exact e.symm))
                  have u1 := hfs.cell HZ1.out (fun e => (HNE.out.1 bx rfl).2 e.symm)
                  have HF12 := Lib.hid (HF11.out.transS (hfs.mono fun j _ e => .inl (by have e : j = bx := e; rw [e]; rfl)))
                  generalize wr.setCell ⟨bx, c, none⟩ (.int .i64 (wrap64 (y + 1))) = w12 at HOY2 HOZ2 u1 HF12
                  clear hfs HOY HOZ HZ1 HF11 t0 t1
                  have t0 := HOZ2.out.cell HZ.out.symm c (by have := HZ.out; omega)
                  have t1 : w12.drew.frozen? ⟨bc, c, none⟩ = false := HOZ2.out.free HZ.out.symm c
                  generalize zs.getD c 0 = z at t0
                  have t2 : w12.drew.cell? ⟨bc, c, none⟩ = some (.int .i64 z) := t0
                  refine wp_region_sink 16 (fun w' => w'.cell? ⟨b, i * 2 + 1, none⟩ = some (.slice (some ⟨bc, 0, none⟩) n cc) ∧ w'.cell? ⟨bc, c, none⟩ = some (.int .i64 z)) (by kernel_rfl) ?_
                  have hS : (fun w' : World => w'.cell? ⟨b, i * 2 + 1, none⟩ = some (.slice (some ⟨bc, 0, none⟩) n cc) ∧ w'.cell? ⟨bc, c, none⟩ = some (.int .i64 z)) w12.drew := ⟨u1, t0⟩
                  refine wpAnyS_take (i := 0) (v := ?_) rfl (by kernel_rfl) (fun _ _ _ h => h) (by rfl) hS ?_ ?_
                  rotate_left
                  · intro w' hS'
                    (try dsimp only at hS')
                    go_simp <;> with_reducible rfl
                  try simp only [Act.put, List.setIfInBounds_toArray, List.set_cons_zero, List.set_cons_succ]
                  refine wpAnyS_take (i := 1) (v := ?_) rfl (by kernel_rfl) (fun _ _ _ h => h) (by rfl) hS ?_ ?_
                  rotate_left
                  · intro w' hS'
                    (try dsimp only at hS')
                    go_simp <;> with_reducible rfl
                  try simp only [Act.put, List.setIfInBounds_toArray, List.set_cons_zero, List.set_cons_succ]
                  refine wpAnyS_take (i := 2) (v := ?_) rfl (by kernel_rfl) (fun _ _ _ h => h) (by rfl) hS ?_ ?_
                  rotate_left
                  · intro w' hS'
                    (try dsimp only at hS')
                    go_simp <;> with_reducible rfl
                  try simp only [Act.put, List.setIfInBounds_toArray, List.set_cons_zero, List.set_cons_succ]
                  refine wpAnyS_take (i := 3) (v := ?_) rfl (by kernel_rfl) (fun _ _ _ h => h) (by rfl) hS ?_ ?_
                  rotate_left
                  · intro w' hS'
                    (try dsimp only at hS')
                    go_simp <;> with_reducible rfl
                  try simp only [Act.put, List.setIfInBounds_toArray, List.set_cons_zero, List.set_cons_succ]
                  refine wpAnyS_take (i := 4) (v := ?_) rfl (by kernel_rfl) (fun _ _ _ h => h) (by rfl) hS ?_ ?_
                  rotate_left
                  · intro w' hS'
                    (try dsimp only at hS')
                    go_simp <;> with_reducible rfl
                  try simp only [Act.put, List.setIfInBounds_toArray, List.set_cons_zero, List.set_cons_succ]
                  refine wpAnyS_take (i := 5) (v := ?_) rfl (by kernel_rfl) (fun _ _ _ h => h) (by rfl) hS ?_ ?_
                  rotate_left
                  · intro w' hS'
                    (try dsimp only at hS')
                    go_simp <;> with_reducible rfl
                  try simp only [Act.put, List.setIfInBounds_toArray, List.set_cons_zero, List.set_cons_succ]
                  refine wpAnyS_take (i := 6) (v := ?_) rfl (by kernel_rfl) (fun _ _ _ h => h) (by rfl) hS ?_ ?_
                  rotate_left
                  · intro w' hS'
                    (try dsimp only at hS')
                    go_simp <;> with_reducible rfl
                  try simp only [Act.put, List.setIfInBounds_toArray, List.set_cons_zero, List.set_cons_succ]
                  refine wpAnyS_take (i := 7) (v := ?_) rfl (by kernel_rfl) (fun _ _ _ h => h) (by rfl) hS ?_ ?_
                  rotate_left
                  · intro w' hS'
                    (try dsimp only at hS')
                    go_simp <;> with_reducible rfl
                  try simp only [Act.put, List.setIfInBounds_toArray, List.set_cons_zero, List.set_cons_succ]
                  refine wpAnyS_take (i := 8) (v := ?_) rfl (by kernel_rfl) (fun _ _ _ h => h) (by rfl) hS ?_ ?_
                  rotate_left
                  · intro w' hS'
                    (try dsimp only at hS')
                    go_simp <;> with_reducible rfl
                  try simp only [Act.put, List.setIfInBounds_toArray, List.set_cons_zero, List.set_cons_succ]
                  refine wpAnyS_take (i := 9) (v := ?_) rfl (by kernel_rfl) (fun _ _ _ h => h) (by rfl) hS ?_ ?_
                  rotate_left
                  · intro w' hS'
                    (try dsimp only at hS')
                    go_simp <;> with_reducible rfl
                  try simp only [Act.put, List.setIfInBounds_toArray, List.set_cons_zero, List.set_cons_succ]
                  refine wpAnyS_take (i := 10) (v := ?_) rfl (by kernel_rfl) (fun _ _ _ h => h) (by rfl) hS ?_ ?_
                  rotate_left
                  · intro w' hS'
                    (try dsimp only at hS')
                    go_simp <;> with_reducible rfl
                  try simp only [Act.put, List.setIfInBounds_toArray, List.set_cons_zero, List.set_cons_succ]
                  refine wpAnyS_take (i := 11) (v := ?_) rfl (by kernel_rfl) (fun _ _ _ h => h) (by rfl) hS ?_ ?_
                  rotate_left
                  · intro w' hS'
                    (try dsimp only at hS')
                    go_simp <;> with_reducible rfl
                  try simp only [Act.put, List.setIfInBounds_toArray, List.set_cons_zero, List.set_cons_succ]
                  refine wpAnyS_take (i := 12) (v := ?_) rfl (by kernel_rfl) (fun _ _ _ h => h) (by rfl) hS ?_ ?_
                  rotate_left
                  · intro w' hS'
                    (try dsimp only at hS')
                    go_simp <;> with_reducible rfl
                  try simp only [Act.put, List.setIfInBounds_toArray, List.set_cons_zero, List.set_cons_succ]
                  refine wpAnyS_take (i := 13) (v := ?_) rfl (by kernel_rfl) (fun _ _ _ h => h) (by rfl) hS ?_ ?_
                  rotate_left
                  · intro w' hS'
                    (try dsimp only at hS')
                    go_simp <;> with_reducible rfl
                  try simp only [Act.put, List.setIfInBounds_toArray, List.set_cons_zero, List.set_cons_succ]
                  refine wpAnyS_take (i := 14) (v := ?_) rfl (by kernel_rfl) (fun _ _ _ h => h) (by rfl) hS ?_ ?_
                  rotate_left
                  · intro w' hS'
                    (try dsimp only at hS')
                    go_simp <;> with_reducible rfl
                  try simp only [Act.put, List.setIfInBounds_toArray, List.set_cons_zero, List.set_cons_succ]
                  refine wpAnyS_take (i := 15) (v := ?_) rfl (by kernel_rfl) (fun _ _ _ h => h) (by rfl) hS ?_ ?_
                  rotate_left
                  · intro w' hS'
                    (try dsimp only at hS')
                    go_simp <;> with_reducible rfl
                  try simp only [Act.put, List.setIfInBounds_toArray, List.set_cons_zero, List.set_cons_succ]
                  clear hS u1 t0
                  refine wpAnyS_last (i := 16) rfl (by kernel_rfl) (by decide) (by kernel_rfl) (by rfl) fun K hK => ?_
                  go_simp
                  refine hK.out _ _ ?_
                  clear hK K t1 t2
                  have hfs := (Fr.refl w12 _).drew.transS (Fr.store w12.drew bc c (.int .i64 (wrap64 (z + 2))))
                  have HOZ3 := Lib.hid (OwnInts.set (w := w12.drew) HOZ2.out HZ.out.symm c (wrap64 (z + 2)))
                  have HOY3 := Lib.hid (HOY2.out.fr hfs fun j hj e => HBX.out (by cases hj; exact e))
                  have HF13 := Lib.hid (HF12.out.transS (hfs.mono fun j _ e => .inr (by have e : j = bc := e; rw [e]; rfl)))
                  clear hfs HOY2 HOZ2 HF12
                  go_wp2_with fail
                  go_roundw
                  case rel => exact ⟨c + 1, ys.set c (wrap64 (y + 1)), zs.set c (wrap64 (z + 2)), by omega, by go_num, by rw [List.length_set]; exact HY.out, by rw [List.length_set]; exact HZ.out, HOY3.out, HOZ3.out, HF13.out⟩
                  case measure => simp [intOf]; omega
                · clear HZ1
                  go_wp2_with fail
                  go_roundw
                  case rel => exact ⟨i + 1, by omega, by go_num, spoilt_step HRr.out HF.out (((HF8.out.trans0 HF10.out).of_nil).transS (HF11.out.mono fun j _ hj => hj.elim (fun h => .inr (HNE.out.2.2 j h)) (fun h => .inl (by rw [HCV.out, Hgn.out]; exact h))))⟩
                  case measure => simp [intOf]; omega
            · go_wp2_with fail
              go_roundw
              case rel => exact ⟨k + 1, by omega, by go_num, HFw.out⟩
              case measure => simp [intOf]; omega
        · go_wp2_with fail
          go_loopw [13] (fun vc wr => ∃ c : Int, -1 ≤ c ∧ c ≤ (mtab M t).1 + 1 ∧ vc = .int .i64 c ∧ Fr w wr Nil) (fun vc _ => ((mtab M t).1 + 1 - intOf vc).toNat)
          case atStart => exact ⟨-1, by omega, by omega, rfl, HF.out⟩
          case round =>
            clear HF
            obtain ⟨c, hc0, hc1, rfl, hf⟩ := hrel
            have HF := Lib.hid hf
            clear hf
            have hcm : (mtab M t).1 ≤ 1000000 := Nat.le_trans (HG.out.at t).le (by decide)
            go_wp2_with fail
            refine (rcols_any t _ (H.out.ref.fr0 HF.out) (by have := HQ.out.n; omega)).mono ?_
            rintro e w3 ⟨he, rfl⟩
            rw [rel_cols] at he
            subst he
            by_cases hlc : c ≤ (mtab M t).1
            · go_wp2_with fail
              refine (api_sum t c (H.out.rws.fr0 HF.out) HG.out).mono ?_
              rintro e w4 ⟨rfl, hf⟩
              have HF4 := Lib.hid (HF.out.trans0 hf)
              clear hf HF
              go_wp2_with fail
              refine (rsum_any t c _ (H.out.ref.fr0 HF4.out) HQ.out).mono ?_
              rintro e w5 ⟨he, hf⟩
              rw [rel_sum HG.out] at he
              subst he
              have HF5 := Lib.hid (HF4.out.trans0 hf)
              clear hf HF4
              go_wp2_with fail
              go_roundw
              case rel => exact ⟨c + 1, by omega, by omega, by go_num, HF5.out⟩
              case measure => simp [intOf]; omega
            · go_wp2_with fail
              go_roundw
              case rel => exact ⟨t + 1, by omega, by omega, by go_num, HF.out⟩
              case measure => simp [intOf]; omega
    · go_wp2_with fail
      go_ret
      exact ⟨rfl, HF.out⟩
end Go.Proofs.Ytljgifjokdppgaa
