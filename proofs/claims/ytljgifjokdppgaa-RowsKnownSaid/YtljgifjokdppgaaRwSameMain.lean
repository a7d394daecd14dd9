/-
  Walk of the law RowsSame, its main way.
  No condition.
-/
import Derived.Test.YtljgifjokdppgaaRwSameSt
import Derived.Deep.RegionHeld3
namespace Go.Proofs.Ytljgifjokdppgaa
open Go Go.RowKit

theorem tri_new {w0 w1 w2 w3 w4 w5 : World} {r m s n b : Nat} {M : List MTab} {S1 T1 S2 T2 S3 : Nat → Prop} (hm : RefAt w1 m (colsN M) (flatM M) T1) (hn : RefAt w2 n (colsN M) (flatM M) T2) (hr : Rws w3 r M S1) (hs : Rws w4 s M S2) (hb : Rws w5 b M S3)
    (f0 : Fr w0 w1 Nil) (f1 : Fr w1 w2 Nil) (f2 : Fr w2 w3 Nil) (f3 : Fr w3 w4 Nil) (f4 : Fr w4 w5 Nil) (o1 : ∀ k, T1 k → w0.heap.size ≤ k) (o2 : ∀ k, T2 k → w1.heap.size ≤ k) (o3 : ∀ k, S1 k → w2.heap.size ≤ k) (o4 : ∀ k, S2 k → w3.heap.size ≤ k) (o5 : ∀ k, S3 k → w4.heap.size ≤ k) :
    Tri w0 w5 r m s n b M M M S1 T1 S2 T2 S3 := by
  have s0 := f0.size
  have s1 := f1.size
  have s2 := f2.size
  have s3 := f3.size
  have s4 := f4.size
  have l1 := hm.lt
  have l2 := hn.lt
  have l3 := hr.lt
  have l4 := hs.lt
  have l5 := hb.lt
  refine ⟨⟨(hr.fr0 f3).fr0 f4, (((hm.fr0 f1).fr0 f2).fr0 f3).fr0 f4, ?_⟩, ⟨hs.fr0 f4, ((hn.fr0 f2).fr0 f3).fr0 f4, ?_⟩, hb, ?_, ?_, ?_, ?_, ?_, ?_, (((f0.trans0 f1).trans0 f2).trans0 f3).trans0 f4⟩
  · intro k h1 h2; have := o3 k h1; have := l1 k h2; omega
  · intro k h1 h2; have := o4 k h1; have := l2 k h2; omega
  · rintro k (h1 | h1) (h2 | h2)
    · have := o4 k h2; have := l3 k h1; omega
    · have := o3 k h1; have := l2 k h2; omega
    · have := o4 k h2; have := l1 k h1; omega
    · have := o2 k h2; have := l1 k h1; omega
  · rintro k (h1 | h1) h2
    · have := o5 k h2; have := l3 k h1; omega
    · have := o5 k h2; have := l1 k h1; omega
  · rintro k (h1 | h1) h2
    · have := o5 k h2; have := l4 k h1; omega
    · have := o5 k h2; have := l2 k h1; omega
  · rintro k (h1 | h1)
    · have := o3 k h1; omega
    · exact o1 k h1
  · rintro k (h1 | h1)
    · have := o4 k h1; omega
    · have := o2 k h1; omega
  · intro k h1; have := o5 k h1; omega

theorem St.z_r {w0 w : World} {r m s n b : Nat} {cols : List Int} {M1 M2 B : List MTab} {k1 k2 k3 : Nat} (h : St w0 w r m s n b cols M1 M2 B k1 k2 k3) : ∃ S1, Rws w r M1 S1 := by
  obtain ⟨S1, T1, S2, T2, S3, ht⟩ := h.tri
  exact ⟨S1, ht.x.rws⟩
theorem flat_width {M : List MTab} (hg : Good M) : ∀ r ∈ flatM M, (r.2.2.length : Int) = qcols (colsN M) r.1 := by
  intro r hr
  have h : r ∈ qall (flatM M) r.1 := List.mem_filter.2 ⟨hr, by simp⟩
  rw [rel_all, List.mem_map] at h
  obtain ⟨x, hx, e⟩ := h
  rw [rel_cols, ← (hg.at r.1).width x hx, ← e]
theorem few_tab {M : List MTab} {k t : Nat} {g : List GRow} (h : Few k M) (hg : rowsOf g = (mtab M t).2) : g.length ≤ k := by
  have e : g.length = (mtab M t).2.length := by rw [← hg]; simp [rowsOf]
  rw [e]
  unfold mtab
  rw [if_pos (by omega)]
  cases hi : M[(t : Int).toNat]? with
  | none => exact Nat.zero_le _
  | some T => exact h T (List.mem_of_getElem? hi)

set_option maxRecDepth 100000 in
set_option maxHeartbeats 1000000 in
theorem sameLaw_main (v va vb : Value) (cols : List Int) (la lb : List CallD) (w : World) (hv : IntsAt w v cols) (hl : cols.length ≤ 9223372036854775807) (ha : CallsAt w va la) (hb : CallsAt w vb lb)
    (h1 : largeB la = false) (h2 : largeB lb = false) (h8 : cols.length ≤ 8) (hok : colOk cols) :
    Calls Try.prog 5 #[v, va, vb] w fun e w' => e = .returned (.bool true) ∧ Fr w w' Nil := by
  obtain ⟨av, cv, rfl⟩ := hv.shape
  obtain ⟨_, aa, ca, rfl, _⟩ := id ha
  obtain ⟨_, ab, cb, rfl, _⟩ := id hb
  have Hv := Lib.hid hv
  have HA := Lib.hid ha
  have HB := Lib.hid hb
  have H1 := Lib.hid h1
  have H2 := Lib.hid h2
  have Hok := Lib.hid hok
  have hla := (largeB_small h1).1
  have hlb := (largeB_small h2).1
  have g8 : decide ((8 : Int) < (cols.length : Int)) = false := by rw [decide_eq_false_iff_not]; omega
  clear hv ha hb h1 h2 hok
  go_enter Try.func5, Try.ntmps5
  go_wp2_with fail
  refine (large_any _ la _ HA.out).mono ?_
  rintro e w1 ⟨he, hf⟩
  rw [H1.out] at he
  subst he
  have Hf := Lib.hid hf
  clear hf
  go_wp2_with fail
  refine (large_any _ lb _ (HB.out.fr Hf.out)).mono ?_
  rintro e w1b ⟨he, hf⟩
  rw [H2.out] at he
  subst he
  have Hfb := Lib.hid (Hf.out.trans0 hf)
  clear hf
  go_wp2_with fail
  refine (rnew_any _ cols _ (Hv.out.fr Hfb.out fun _ _ h => h) hl).mono ?_
  rintro e w2 hr
  rcases hr with ⟨_, m, T1, rfl, hm, om, hfm⟩ | ⟨hno, _⟩
  rotate_left
  · exact absurd Hok.out hno
  have HM := Lib.hid hm
  have OM := Lib.hid om
  have FM := Lib.hid hfm
  clear hm om hfm
  go_wp2_with fail
  refine (rnew_any _ cols _ (Hv.out.fr (Hfb.out.trans0 FM.out) fun _ _ h => h) hl).mono ?_
  rintro e w3 hr
  rcases hr with ⟨_, n, T2, rfl, hn, on, hfn⟩ | ⟨hno, _⟩
  rotate_left
  · exact absurd Hok.out hno
  have HN := Lib.hid hn
  have ON := Lib.hid on
  have FN := Lib.hid hfn
  clear hn on hfn
  go_wp2_with fail
  refine (api_new _ cols _ (Hv.out.fr ((Hfb.out.trans0 FM.out).trans0 FN.out) fun _ _ h => h) hl).mono ?_
  rintro e w4 hr
  rcases hr with ⟨_, r, S1, rfl, hr, or', hfr⟩ | ⟨hno, _⟩
  rotate_left
  · exact absurd Hok.out hno
  have HR := Lib.hid hr
  have OR := Lib.hid or'
  have FR := Lib.hid hfr
  clear hr or' hfr
  go_wp2_with fail
  refine (api_new _ cols _ (Hv.out.fr (((Hfb.out.trans0 FM.out).trans0 FN.out).trans0 FR.out) fun _ _ h => h) hl).mono ?_
  rintro e w5 hr
  rcases hr with ⟨_, s, S2, rfl, hs, os', hfs⟩ | ⟨hno, _⟩
  rotate_left
  · exact absurd Hok.out hno
  have HS := Lib.hid hs
  have OS := Lib.hid os'
  have FS := Lib.hid hfs
  clear hs os' hfs
  go_wp2_with fail
  refine (api_new _ cols _ (Hv.out.fr ((((Hfb.out.trans0 FM.out).trans0 FN.out).trans0 FR.out).trans0 FS.out) fun _ _ h => h) hl).mono ?_
  rintro e w6 hr
  rcases hr with ⟨_, b, S3, rfl, hb, ob', hfb⟩ | ⟨hno, _⟩
  rotate_left
  · exact absurd Hok.out hno
  have HT : Hid (TriE w1b w6 r m s n b (newMod cols) (newMod cols) (newMod cols)) := by
    have e1 := colsN_new Hok.out
    have e2 := flat_new cols
    have hm := HM.out
    have hn := HN.out
    rw [← e2] at hm hn
    have hm' : RefAt w2 m (colsN (newMod cols)) (flatM (newMod cols)) T1 := by rw [e1]; exact hm
    have hn' : RefAt w3 n (colsN (newMod cols)) (flatM (newMod cols)) T2 := by rw [e1]; exact hn
    exact ⟨S1, T1, S2, T2, S3, tri_new hm' hn' HR.out HS.out hb FM.out FN.out FR.out FS.out hfb OM.out ON.out OR.out OS.out ob'⟩
  have HG0 := good_new Hok.out
  have HI := Lib.hid (St.mk (cols := cols) (k1 := 0) (k2 := 0) (k3 := 0) HT.out HG0.1 HG0.1 HG0.1 HG0.2 HG0.2 HG0.2 rfl rfl rfl)
  clear hb ob' hfb HM HN HR HS OM ON OR OS FM FN FR FS HT HG0
  have HA := Lib.hid (HA.out.fr Hfb.out)
  have HB := Lib.hid (HB.out.fr Hfb.out)
  have Hv := Lib.hid (Hv.out.fr Hfb.out fun _ _ h => h)
  clear Hf
  go_wp2_with fail
  go_loopw [17] (fun vi wr => ∃ k : Nat, k ≤ la.length ∧ vi = .int .i64 k ∧ St w1b wr r m s n b cols (msteps (newMod cols) (la.take k)) (newMod cols) (newMod cols) k 0 0) (fun vi _ => la.length - (intOf vi).toNat)
  case atStart => exact ⟨0, by omega, rfl, HI.out⟩
  case round =>
    clear HI
    obtain ⟨k, hk, rfl, hinv⟩ := hrel
    have HI := Lib.hid hinv
    clear hinv
    by_cases hlt : k < la.length
    · obtain ⟨ba, offa, cap2, hva, hc⟩ := HA.out.form (by omega)
      simp only [Value.slice.injEq, true_and] at hva
      obtain ⟨rfl, rfl⟩ := hva
      have hg := List.getElem?_eq_getElem hlt
      have hnx := msteps_next (M := newMod cols) hg
      generalize la[k] = c at hg hnx
      have hca0 := hc k c hg
      have HC0 := Lib.hid hca0
      have hca := hca0.fr HI.out.tri.fr
      obtain ⟨ac, cc, hcv⟩ := hca.cols.shape
      have q0 := hca.kind
      have q1 := hca.table
      have q2 := hca.key
      have q3 := hca.col
      have q4 := hca.n
      have q5 := hca.cv
      rw [hcv] at q5
      have HM : Hid (c.cols.length ≤ 2000) := (largeB_small H1.out).2 c (List.mem_of_getElem? hg)
      have HCV := Lib.hid hcv
      have HNX := Lib.hid hnx
      have hlt2 : (k : Int) < (la.length : Int) := by omega
      have hk9 : k < 1000 := by omega
      clear hc hg hca hcv hca0 hnx
      go_wp2_with fail
      rw [← HCV.out]
      refine (HI.out.does1 hk9 c HC0.out HM.out).mono ?_
      rintro e w7 ⟨rfl, hi⟩
      rw [← HNX.out] at hi
      have HI7 := Lib.hid hi
      clear hi HI
      go_wp2_with fail
      go_roundw
      case rel => exact ⟨k + 1, by omega, by go_num, HI7.out⟩
      case measure => simp [intOf]; omega
    · have hke : k = la.length := by omega
      subst hke
      rw [List.take_length] at HI
      have HI1 := Lib.hid (HI.out.le (j1 := 100) (j2 := 0) (j3 := 0) hla (Nat.le_refl _) (Nat.le_refl _))
      generalize msteps (newMod cols) la = M1 at HI1
      clear HI hlt hk HA
      go_wp2_with fail
      go_loopw [18] (fun vi wr => ∃ k : Nat, k ≤ lb.length ∧ vi = .int .i64 k ∧ St w1b wr r m s n b cols M1 (msteps (newMod cols) (lb.take k)) (newMod cols) 100 k 0) (fun vi _ => lb.length - (intOf vi).toNat)
      case atStart => exact ⟨0, by omega, rfl, HI1.out⟩
      case round =>
        clear HI1
        obtain ⟨k, hk, rfl, hinv⟩ := hrel
        have HI := Lib.hid hinv
        clear hinv
        by_cases hlt : k < lb.length
        · obtain ⟨bb, offb, cap2, hva, hc⟩ := HB.out.form (by omega)
          simp only [Value.slice.injEq, true_and] at hva
          obtain ⟨rfl, rfl⟩ := hva
          have hg := List.getElem?_eq_getElem hlt
          have hnx := msteps_next (M := newMod cols) hg
          generalize lb[k] = c at hg hnx
          have hca0 := hc k c hg
          have HC0 := Lib.hid hca0
          have hca := hca0.fr HI.out.tri.fr
          obtain ⟨ac, cc, hcv⟩ := hca.cols.shape
          have q0 := hca.kind
          have q1 := hca.table
          have q2 := hca.key
          have q3 := hca.col
          have q4 := hca.n
          have q5 := hca.cv
          rw [hcv] at q5
          have HM : Hid (c.cols.length ≤ 2000) := (largeB_small H2.out).2 c (List.mem_of_getElem? hg)
          have HCV := Lib.hid hcv
          have HNX := Lib.hid hnx
          have hlt2 : (k : Int) < (lb.length : Int) := by omega
          have hk9 : k < 1000 := by omega
          clear hc hg hca hcv hca0 hnx
          go_wp2_with fail
          rw [← HCV.out]
          refine (HI.out.does2 hk9 c HC0.out HM.out).mono ?_
          rintro e w7 ⟨rfl, hi⟩
          rw [← HNX.out] at hi
          have HI7 := Lib.hid hi
          clear hi HI
          go_wp2_with fail
          go_roundw
          case rel => exact ⟨k + 1, by omega, by go_num, HI7.out⟩
          case measure => simp [intOf]; omega
        · have hke : k = lb.length := by omega
          subst hke
          rw [List.take_length] at HI
          have HI1 := Lib.hid (HI.out.le (j1 := 100) (j2 := 100) (j3 := 0) (Nat.le_refl _) hlb (Nat.le_refl _))
          generalize msteps (newMod cols) lb = M2 at HI1
          clear HI hlt hk HB
          go_wp2_with fail
          go_loopw [19] (fun vi wr => ∃ (t : Nat) (B : List MTab), t ≤ cols.length ∧ vi = .int .i64 t ∧ St w1b wr r m s n b cols M1 M2 B 100 100 (t * 100) ∧ Filled M1 B t []) (fun vi _ => cols.length - (intOf vi).toNat)
          case atStart => exact ⟨0, _, by omega, rfl, HI1.out, filled_new cols⟩
          case round =>
            clear HI1
            obtain ⟨t, B, ht, rfl, hinv, hfl⟩ := hrel
            have HI := Lib.hid hinv
            have HFL := Lib.hid hfl
            clear hinv hfl
            by_cases hlt : t < cols.length
            · have hlt2 : (t : Int) < (cols.length : Int) := by omega
              have HZ := Lib.hid HI.out.z_r
              obtain ⟨S1, hz⟩ := HZ.out
              go_wp2_with fail
              refine (api_all _ hz HI.out.g1).mono ?_
              rintro e w7 ⟨al, cl, g, rfl, hN, hrows, hf⟩
              have HL := Lib.hid (StL.start HI.out HFL.out hN hrows hf)
              have hgl : g.length ≤ 100 := few_tab HI.out.f1 hrows
              clear hN hrows hf HI HFL HZ hz
              go_wp2_with fail
              go_loopw [21] (fun vi wr => ∃ (i : Nat) (B : List MTab), i ≤ g.length ∧ vi = .int .i64 ((i : Int) - 1) ∧ StL w1b wr r m s n b cols M1 M2 B 100 100 (t * 100 + (g.length - i)) t i (.slice al g.length cl) g) (fun vi _ => (intOf vi + 1).toNat)
              case atStart => exact ⟨g.length, B, by omega, rfl, by rw [Nat.sub_self]; exact HL.out⟩
              case round =>
                clear HL
                obtain ⟨i, B, hi, rfl, hinv⟩ := hrel
                have HI := Lib.hid hinv
                clear hinv
                by_cases hli : 0 < i
                · obtain ⟨j, rfl⟩ : ∃ j, i = j + 1 := ⟨i - 1, by omega⟩
                  have hje : ((j + 1 : Nat) : Int) - 1 = (j : Int) := by omega
                  rw [hje]
                  have hr := List.getElem?_eq_getElem (show j < g.length by omega)
                  generalize g[j] = row at hr
                  have hN := HI.out.2.2.2.1
                  obtain ⟨bl, capb, hlv, _⟩ : ∃ b cap, Value.slice al g.length cl = .slice (some ⟨b, 0, none⟩) g.length cap ∧ True := by
                    rcases hN.shape with ⟨_, h2⟩ | ⟨b, cap, h1, _⟩
                    · rw [h2] at hi; simp at hi
                    · exact ⟨b, cap, h1, trivial⟩
                  simp only [Value.slice.injEq, true_and] at hlv
                  obtain ⟨rfl, rfl⟩ := hlv
                  have p0 := hN.key _ row hr
                  have p1 := hN.cv _ row hr
                  have HCL := Lib.hid (hN.cols row (List.mem_of_getElem? hr))
                  obtain ⟨ac, cc, hcv⟩ := HCL.out.at.shape
                  have HCV := Lib.hid hcv
                  have HR := Lib.hid hr
                  rw [hcv] at p1
                  have hbl : bl ∈ rlBlocks (.slice (some ⟨bl, 0, none⟩) g.length cl) g := by simp [rlBlocks, Value.ownBlock]
                  have hjl : (j : Int) < (g.length : Int) := by omega
                  have hj0 : decide ((j : Int) ≥ 0) = true := by simp
                  clear hN hcv hr
                  go_wp2_with fail
                  go_region_held3 (fun w' => w'.cell? ⟨bl, j * 2, none⟩ = some (.int .i64 row.key) ∧ w'.cell? ⟨bl, j * 2 + 1, none⟩ = some (.slice ac row.cols.length cc))
                    (first | go_keep | exact hS5)
                    (first | (go_at_call 13; rw [← HCV.out]; refine ((HI.out.fr0 (Fr.refl wr Nil).drew).put (by omega) HR.out).mono ?_; rintro e w5 ⟨rfl, hx, hkeep⟩; have hS5 := And.intro (hkeep _ _ _ hbl p0) (hkeep _ _ _ hbl p1)))
                  obtain ⟨B2, hx⟩ := hx
                  have HI2 : Hid (StL w1b w5 r m s n b cols M1 M2 B2 100 100 (t * 100 + (g.length - j)) t j (.slice (some ⟨bl, 0, none⟩) g.length cl) g) := ⟨hx.1.le (Nat.le_refl _) (Nat.le_refl _) (by omega), hx.2⟩
                  clear hx hkeep hS5 HI p0 p1
                  go_wp2_with fail
                  go_roundw
                  case rel => exact ⟨j, B2, by omega, rfl, HI2.out⟩
                  case measure => simp [intOf]
                · obtain rfl : i = 0 := by omega
                  have HI1 : Hid (St w1b wr r m s n b cols M1 M2 B 100 100 ((t + 1) * 100) ∧ Filled M1 B (t + 1) []) := ⟨HI.out.1.le (Nat.le_refl _) (Nat.le_refl _) (by omega), filled_next HI.out.2.1⟩
                  clear HI
                  go_wp2_with fail
                  go_roundw
                  case rel => exact ⟨t + 1, B, by omega, by go_num, HI1.out.1, HI1.out.2⟩
                  case measure => simp [intOf]; omega
            · have hte : t = cols.length := by omega
              subst hte
              have hBM : B = M1 := filled_all HI.out.g1 HI.out.g3 (HI.out.c3.trans HI.out.c1.symm) (by
                have : M1.length = cols.length := by have := congrArg List.length HI.out.c1; simpa [colsOf, newMod] using this
                rw [this]
                exact HFL.out)
              subst hBM
              have HD : Hid (decide (colsN B = colsN M2 ∧ flatM B = flatM M2) = decide (B = M2)) := decide_eq_decide.2 (flat_inj HI.out.g1 HI.out.g2)
              clear HFL hlt ht
              go_wp2_with fail
              obtain ⟨S1, T1, S2, T2, S3, ht⟩ := HI.out.tri
              have HT := Lib.hid ht
              have G1 := Lib.hid HI.out.g1
              have G2 := Lib.hid HI.out.g2
              have F1 := Lib.hid HI.out.f1
              have F2 := Lib.hid HI.out.f2
              clear ht HI
              refine (api_same HT.out.x.rws HT.out.y.rws G1.out G2.out).mono ?_
              rintro e w7 ⟨rfl, hf⟩
              have HT7 := Lib.hid (HT.out.fr0 hf)
              clear hf HT
              go_wp2_with fail
              refine (refsame_any _ HT7.out.x.ref HT7.out.y.ref (qok_flat G1.out F1.out (by omega)) (qok_flat G2.out F2.out (by omega)) (flat_width G1.out) (flat_width G2.out)).mono ?_
              rintro e w8 ⟨he, hf⟩
              rw [HD.out] at he
              subst he
              have HT8 := Lib.hid (HT7.out.fr0 hf)
              clear hf HT7
              generalize decide (B = M2) = d
              have hdd : (d == d) = true := beq_self_eq_true d
              go_wp2_with fail
              refine (api_same HT8.out.x.rws HT8.out.z G1.out G1.out).mono ?_
              rintro e w9 ⟨he, hf⟩
              rw [decide_eq_true rfl] at he
              subst he
              have HT9 := Lib.hid (HT8.out.fr0 hf)
              clear hf HT8
              go_wp2_with fail
              refine (api_same HT9.out.z HT9.out.x.rws G1.out G1.out).mono ?_
              rintro e w10 ⟨he, hf⟩
              rw [decide_eq_true rfl] at he
              subst he
              have HT10 := Lib.hid (HT9.out.fr0 hf)
              clear hf HT9
              go_wp2_with fail
              refine (works_any _).mono ?_
              rintro e w11 ⟨rfl, hf⟩
              have HF11 := Lib.hid (Hfb.out.trans0 (HT10.out.fr.trans0 hf))
              clear hf HT10
              go_wp2_with fail
              go_ret
              exact ⟨rfl, HF11.out⟩

theorem same_any (v va vb : Value) (cols : List Int) (la lb : List CallD) (w : World) (hv : IntsAt w v cols) (hl : cols.length ≤ 9223372036854775807) (ha : CallsAt w va la) (hb : CallsAt w vb lb) :
    Calls Try.prog 5 #[v, va, vb] w fun e w' => e = .returned (.bool true) ∧ Fr w w' Nil := by
  by_cases hE : largeB la = true ∨ largeB lb = true ∨ 8 < cols.length ∨ ¬ colOk cols
  · exact sameLaw_early v va vb cols la lb w hv hl ha hb hE
  · simp only [not_or, Bool.not_eq_true, Classical.not_not] at hE
    exact sameLaw_main v va vb cols la lb w hv hl ha hb hE.1 hE.2.1 (by omega) hE.2.2.2
end Go.Proofs.Ytljgifjokdppgaa
