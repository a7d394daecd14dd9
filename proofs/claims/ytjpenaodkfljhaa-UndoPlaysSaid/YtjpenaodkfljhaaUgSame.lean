/-
  Walk of same (interlocklaw14): rows that are the model's.
  No condition but sizes.
-/
import Derived.Test.YtjpenaodkfljhaaUgClean
import Derived.Test.YtjpenaodkfljhaaRwTellsP
import Derived.BigRegion
namespace Go.Proofs.Ytjpenaodkfljhaa
open Go Go.RowKit

set_option maxRecDepth 100000 in
set_option maxHeartbeats 4000000 in
theorem lsame_any {rb qb : Nat} {M : List MTab} {S T : Nat → Prop} {B : Nat} (w : World) (h : Rws w rb M S) (hq : RefAt w qb (colsN M) (flatM M) T) (hg : Good M) (hfew : Few B M) (hB : B ≤ 1000) :
    Calls Try.prog 74 #[rptr rb, rptr qb] w fun e w' => e = .returned (.bool true) ∧ Fr w w' Nil := by
  have HQ := Lib.hid (qok_flat hg hfew hB)
  have HG := Lib.hid hg
  have H := Lib.hid h
  have hNL : (colsN M).length = M.length := by simp [colsN]
  have hML : M.length ≤ 64 := hg.few
  obtain ⟨nv, lvq, gq, hr, hgq⟩ := hq
  obtain ⟨an, cn, hnv⟩ := hr.n.shape
  rw [hnv, hNL] at hr
  have HR := Lib.hid hr
  have HGQ := Lib.hid hgq
  have q0 := hr.root.cell 0
  clear h hg hfew hnv hr hgq hNL
  go_enter Try.func74, Try.ntmps74
  go_wp2_with fail
  go_region_held3 (fun w' => w'.cell? ⟨qb, 0, none⟩ = some (.slice an M.length cn))
    (first | go_keep | exact hS5)
    (first | (go_at_call 90; refine (api_tables (H.out.fr0 ((Fr.refl w Nil).drew)) HG.out).mono ?_; rintro e w5 ⟨rfl, rfl⟩; have hS5 := q0))
  go_wp2_with fail
  clear hS5
  go_loopw [5] (fun vt wr => ∃ t : Nat, t ≤ M.length ∧ vt = .int .i64 t ∧ Fr w wr Nil) (fun vt _ => (M.length - (intOf vt).toNat))
  case atStart => exact ⟨0, by omega, rfl, (Fr.refl w Nil).drew⟩
  case round =>
    obtain ⟨t, ht, rfl, hf⟩ := hrel
    have HF := Lib.hid hf
    have q1 := hf.cell q0 (fun h => h)
    clear hf
    by_cases hlt : t < M.length
    · have htt : (t : Int) < (M.length : Int) := by omega
      go_wp2_with fail
      refine (api_all (t : Int) (H.out.fr0 HF.out) HG.out).mono ?_
      rintro e w4 ⟨al, cl, g, rfl, hN, hrows, hf⟩
      have HF4 := Lib.hid (HF.out.trans0 hf)
      have HN := Lib.hid hN
      have Hrows := Lib.hid hrows
      clear hf HF hN hrows
      go_wp2_with fail
      refine (rall_any (t : Int) _ (HR.out.fr0 HF4.out) (by have := HQ.out.l; rw [← HGQ.out] at this; simpa [qrows] using this)).mono ?_
      rintro e w5 ⟨aq, cq, g2, rfl, hS, hq2⟩
      rw [HGQ.out, rel_all] at hq2
      have hl2 := tells_len Hrows.out hq2
      have HF5 := Lib.hid (HF4.out.trans0 hS.fr)
      have HN5 := Lib.hid (HN.out.fr hS.fr)
      have HQ5 := Lib.hid hS.l
      have HQ2 := Lib.hid hq2
      have hgl2 := Lib.hid hl2.1
      have hne : ((g.length : Int) != (g2.length : Int)) = false := by rw [bne_eq_false_iff_eq]; have := hgl2.out; omega
      have hgl : g.length ≤ 1000000 := by have := (HG.out.at t).few; rw [← Hrows.out] at this; simpa [rowsOf] using this
      clear hS hq2 hl2 HN HF4
      go_wp2_with fail
      go_loopw [8] (fun vi wr => ∃ i : Nat, i ≤ g.length ∧ vi = .int .i64 i ∧ Fr w5 wr Nil) (fun vi _ => g.length - (intOf vi).toNat)
      case atStart => exact ⟨0, by omega, rfl, Fr.refl _ _⟩
      case round =>
        obtain ⟨i, hi, rfl, hf⟩ := hrel
        have HF := Lib.hid hf
        clear hf
        by_cases hli : i < g.length
        · have hr := List.getElem?_eq_getElem hli
          have hli2 : i < g2.length := by have := hgl2.out; omega
          have hq := List.getElem?_eq_getElem hli2
          generalize g[i] = r at hr
          generalize g2[i] = q at hq
          obtain ⟨b, capb, hlv, _⟩ : ∃ b cap, Value.slice al g.length cl = .slice (some ⟨b, 0, none⟩) g.length cap ∧ True := by
            rcases HN5.out.rl.shape with ⟨_, h2⟩ | ⟨b, cap, h1, _⟩
            · rw [h2] at hli; simp at hli
            · exact ⟨b, cap, h1, trivial⟩
          simp only [Value.slice.injEq, true_and] at hlv
          obtain ⟨rfl, rfl⟩ := hlv
          have hN6 := HN5.out.fr HF.out
          have p0 := hN6.rl.key i r hr
          have p1 := hN6.rl.cv i r hr
          have hown := hN6.rl.cols r (List.mem_of_getElem? hr)
          have hql := HQ5.out.fr0 HF.out
          obtain ⟨bq, oq, cq2, hqv, _, p3, p4⟩ := hql.cells hq
          simp only [Value.slice.injEq, true_and] at hqv
          obtain ⟨rfl, rfl⟩ := hqv
          obtain ⟨hk1, hk2, _, hcl⟩ := tells_row HG.out Hrows.out HQ2.out hr hq
          have hqc := hql.cols q (List.mem_of_getElem? hq)
          rw [hk2] at hqc
          rw [hk1] at p3
          obtain ⟨ac, cc, hcv⟩ := hown.shape
          obtain ⟨aqc, cqc, hqcv⟩ := hqc.shape
          rw [hcv] at p1 hown
          rw [hqcv] at p4 hqc
          have HOW := Lib.hid hown.at
          have HQC := Lib.hid hqc
          have hi1 : (i : Int) < (g.length : Int) := by omega
          have hi2 : (i : Int) < (g2.length : Int) := by omega
          obtain ⟨wo, rfl⟩ : ∃ wo : World, wo = wr := ⟨_, rfl⟩
          clear hr hq hown hql hk1 hk2 hqc hcv hqcv hN6
          go_wp2_with fail
          go_quiet (fail)
          rename_i nq
          go_wp2_with fail
          go_loopw [9] (fun vc wr => ∃ c : Nat, c ≤ r.cols.length ∧ vc = .int .i64 c ∧ Fr wo wr Nil) (fun vc _ => r.cols.length - (intOf vc).toNat)
          case atStart => exact ⟨0, by omega, rfl, (Fr.refl _ _).drewN _⟩
          case round =>
            obtain ⟨c, hc, rfl, hf⟩ := hrel
            have HFc := Lib.hid hf
            have z0 := hf.cell p0 fun h => h
            have z1 := hf.cell p1 fun h => h
            have z3 := hf.cell p3 fun h => h
            have z4 := hf.cell p4 fun h => h
            by_cases hlc : c < r.cols.length
            · have hcg := List.getElem?_eq_getElem hlc
              generalize r.cols[c] = x at hcg
              obtain ⟨b1, o1, c1, hv1, e1⟩ := HOW.out.form (by omega)
              simp only [Value.slice.injEq, true_and] at hv1
              obtain ⟨rfl, rfl⟩ := hv1
              obtain ⟨b2, o2, c2, hv2, e2⟩ := HQC.out.form (by omega)
              simp only [Value.slice.injEq, true_and] at hv2
              obtain ⟨rfl, rfl⟩ := hv2
              have t1 := hf.cell (e1 c x hcg) fun h => h
              have t2 := hf.cell (e2 c x hcg) fun h => h
              have hci : (c : Int) < (r.cols.length : Int) := by omega
              clear e1 e2 hcg hf p0 p1 p3 p4 z0 z3
              go_wp2_with fail
              go_quiet (fail)
              rename_i nq2
              go_wp2_with fail
              go_roundw
              case rel => exact ⟨c + 1, by omega, by go_num, HFc.out.drewN _⟩
              case measure => simp [intOf]; omega
            · have hci : ¬ (c : Int) < (r.cols.length : Int) := by omega
              clear hf p0 p1 p3 p4
              go_wp2_with fail
              go_roundw
              case rel => exact ⟨i + 1, by omega, by go_num, HF.out.trans0 HFc.out⟩
              case measure => simp [intOf]; omega
        · have hi1 : ¬ (i : Int) < (g.length : Int) := by omega
          go_wp2_with fail
          go_roundw
          case rel => exact ⟨t + 1, by omega, by go_num, HF5.out.trans0 HF.out⟩
          case measure => simp [intOf]; omega
    · have htt : ¬ (t : Int) < (M.length : Int) := by omega
      go_wp2_with fail
      go_ret
      exact ⟨rfl, HF.out⟩
end Go.Proofs.Ytjpenaodkfljhaa
