/-
  Walk of the document's Same.
  No condition but sizes.
-/
import Derived.Test.YtljgifjokdppgaaRfRel2
import Derived.Test.YtljgifjokdppgaaRwInts
import Derived.Deep.QuietTactic
import Derived.BigQuiet
import Derived.Deep.RegionHeld3
namespace Go.Proofs.Ytljgifjokdppgaa
open Go Go.RowKit
attribute [local go_sem ↓] Go.wp_at_zero Go.wp_at_succ

theorem take_all_eq {α : Type} {a b : List α} {k : Nat} (h : a.take k = b.take k) (hk : a.length ≤ k) (hl : a.length = b.length) : a = b := by
  rw [List.take_of_length_le hk, List.take_of_length_le (by omega)] at h
  exact h

set_option maxRecDepth 100000 in
set_option maxHeartbeats 1000000 in
theorem refsame_any {ra rb : Nat} {N1 N2 : List Int} {L1 L2 : List QR} {S1 S2 : Nat → Prop} (w : World) (h1 : RefAt w ra N1 L1 S1) (h2 : RefAt w rb N2 L2 S2) (q1 : QOk N1 L1) (q2 : QOk N2 L2)
    (hw1 : ∀ r ∈ L1, (r.2.2.length : Int) = qcols N1 r.1) (hw2 : ∀ r ∈ L2, (r.2.2.length : Int) = qcols N2 r.1) :
    Calls Try.prog 23 #[.pointer (some ⟨ra, 0, none⟩), .pointer (some ⟨rb, 0, none⟩)] w fun e w' => e = .returned (.bool (decide (N1 = N2 ∧ L1 = L2))) ∧ Fr w w' Nil := by
  obtain ⟨nv1, lv1, g1, hr1, hg1⟩ := h1
  obtain ⟨nv2, lv2, g2, hr2, hg2⟩ := h2
  obtain ⟨an1, cn1, hn1⟩ := hr1.n.shape
  obtain ⟨an2, cn2, hn2⟩ := hr2.n.shape
  obtain ⟨al1, cl1, hl1⟩ := hr1.l.sl.shape
  obtain ⟨al2, cl2, hl2⟩ := hr2.l.sl.shape
  have p0 := hr1.root.cell 0
  have p1 := hr1.root.cell 1
  have s0 := hr2.root.cell 0
  have s1 := hr2.root.cell 1
  have HN1 := Lib.hid hr1.n
  have HN2 := Lib.hid hr2.n
  have HL1 := Lib.hid hr1.l
  have HL2 := Lib.hid hr2.l
  rw [hn1] at p0 HN1
  rw [hl1] at p1 HL1
  rw [hn2] at s0 HN2
  rw [hl2] at s1 HL2
  have p0 : w.cell? ⟨ra, 0, none⟩ = some (.slice an1 N1.length cn1) := p0
  have p1 : w.cell? ⟨ra, 1, none⟩ = some (.slice al1 g1.length cl1) := p1
  have s0 : w.cell? ⟨rb, 0, none⟩ = some (.slice an2 N2.length cn2) := s0
  have s1 : w.cell? ⟨rb, 1, none⟩ = some (.slice al2 g2.length cl2) := s1
  have Hw1 := Lib.hid hw1
  have Hw2 := Lib.hid hw2
  have Hg1 := Lib.hid hg1
  have Hg2 := Lib.hid hg2
  have hb1 : N1.length ≤ 64 := q1.n
  have hb2 : N2.length ≤ 64 := q2.n
  have hc1 : g1.length ≤ 100000 := by have := q1.l; rw [← hg1] at this; simpa [qrows] using this
  have hc2 : g2.length ≤ 100000 := by have := q2.l; rw [← hg2] at this; simpa [qrows] using this
  have HQC : Hid (∀ r ∈ g1, r.cols.length ≤ 1000000) := fun r hr => q1.cols r.mod (by rw [← hg1]; exact List.mem_map.2 ⟨r, hr, rfl⟩)
  clear hr1 hr2 hn1 hn2 hl1 hl2 hw1 hw2 hg1 hg2 q1 q2
  by_cases hNl : N1.length = N2.length
  · have f1 : ((N1.length : Int) != (N2.length : Int)) = false := by rw [bne_eq_false_iff_eq]; omega
    by_cases hGl : g1.length = g2.length
    · have f2 : ((g1.length : Int) != (g2.length : Int)) = false := by rw [bne_eq_false_iff_eq]; omega
      have HNl := Lib.hid hNl
      have HGl := Lib.hid hGl
      clear hNl hGl
      go_enter Try.func23, Try.ntmps23
      go_wp2_with fail
      go_quiet (fail)
      go_wp2_with fail
      go_loopw [5] (fun vi wr => ∃ k : Nat, k ≤ N1.length ∧ vi = .int .i64 k ∧ N1.take k = N2.take k ∧ Fr w wr Nil) (fun vi _ => N1.length - (intOf vi).toNat)
      case atStart => exact ⟨0, by omega, rfl, by simp, (Fr.refl w Nil).drewN _⟩
      case round =>
        obtain ⟨k, hk, rfl, htk, hf⟩ := hrel
        have Htk := Lib.hid htk
        have Hf := Lib.hid hf
        have p0r := hf.cell p0 (fun h => h)
        have s0r := hf.cell s0 (fun h => h)
        have p1r := hf.cell p1 (fun h => h)
        have s1r := hf.cell s1 (fun h => h)
        clear htk hf
        by_cases hlt : k < N1.length
        · have hlt' : k < N2.length := by have := HNl.out; omega
          obtain ⟨b1, o1, c1, hv1, hcl1⟩ := HN1.out.form (by omega)
          obtain ⟨b2, o2, c2, hv2, hcl2⟩ := HN2.out.form (by omega)
          simp only [Value.slice.injEq, true_and] at hv1 hv2
          obtain ⟨rfl, rfl⟩ := hv1
          obtain ⟨rfl, rfl⟩ := hv2
          have hx1 := List.getElem?_eq_getElem hlt
          have hx2 := List.getElem?_eq_getElem hlt'
          generalize N1[k] = x at hx1
          generalize N2[k] = y at hx2
          have e0 := Hf.out.cell (hcl1 k x hx1) (fun h => h)
          have e1 := Hf.out.cell (hcl2 k y hx2) (fun h => h)
          have i1 : (k : Int) < (N1.length : Int) := by omega
          have i2 : (k : Int) < (N2.length : Int) := by omega
          have HX1 := Lib.hid hx1
          have HX2 := Lib.hid hx2
          clear hcl1 hcl2 hx1 hx2 p1r s1r
          by_cases hxy : x = y
          · have g0 : (x != y) = false := by rw [bne_eq_false_iff_eq]; exact hxy
            have HT := Lib.hid (take_succ_eq HX1.out HX2.out Htk.out hxy)
            clear hxy
            go_wp2_with fail
            go_quiet (fail)
            go_wp2_with fail
            go_roundw
            case rel => exact ⟨k + 1, by omega, by go_num, HT.out, Hf.out.drewN _⟩
            case measure => simp [intOf]; omega
          · have g0 : (x != y) = true := by rw [bne_iff_ne]; exact hxy
            have HN : Hid (¬ (N1 = N2 ∧ L1 = L2)) := by
              rintro ⟨e, _⟩
              have h2 := HX1.out
              rw [e, HX2.out] at h2
              exact hxy (by simpa using h2.symm)
            clear hxy
            go_wp2_with fail
            go_quiet (fail)
            go_wp2_with fail
            go_ret
            exact ⟨by rw [decide_eq_false HN.out]; rfl, Hf.out.drewN _⟩
        · have HNE : Hid (N1 = N2) := take_all_eq Htk.out (by omega) HNl.out
          go_wp2_with fail
          go_loopw [6, 7, 8, 9] (fun vi _ _ _ wq => ∃ k : Nat, k ≤ g1.length ∧ vi = .int .i64 k ∧ (qrows g1).take k = (qrows g2).take k ∧ Fr w wq Nil) (fun vi _ _ _ _ => g1.length - (intOf vi).toNat)
          case atStart => exact ⟨0, by omega, rfl, by simp, Hf.out⟩
          case round =>
            clear p0r s0r p1r s1r Hf Htk hlt hk
            obtain ⟨k, hk, rfl, htk, hf⟩ := hrel
            have Htk := Lib.hid htk
            have Hf := Lib.hid hf
            have p1r := hf.cell p1 (fun h => h)
            have s1r := hf.cell s1 (fun h => h)
            clear htk hf
            by_cases hlt : k < g1.length
            · have hlt' : k < g2.length := by have := HGl.out; omega
              have hx1 := List.getElem?_eq_getElem hlt
              have hx2 := List.getElem?_eq_getElem hlt'
              generalize g1[k] = x at hx1
              generalize g2[k] = y at hx2
              obtain ⟨b1, o1, c1, hv1, x0, x1, x2⟩ := (HL1.out.fr0 Hf.out).cells hx1
              obtain ⟨b2, o2, c2, hv2, y0, y1, y2⟩ := (HL2.out.fr0 Hf.out).cells hx2
              simp only [Value.slice.injEq, true_and] at hv1 hv2
              obtain ⟨rfl, rfl⟩ := hv1
              obtain ⟨rfl, rfl⟩ := hv2
              have i1 : (k : Int) < (g1.length : Int) := by omega
              have i2 : (k : Int) < (g2.length : Int) := by omega
              have HX1 := Lib.hid hx1
              have HX2 := Lib.hid hx2
              have hxl := HQC.out x (List.mem_of_getElem? hx1)
              have hcx := (HL1.out.fr0 Hf.out).cols x (List.mem_of_getElem? hx1)
              have hcy := (HL2.out.fr0 Hf.out).cols y (List.mem_of_getElem? hx2)
              obtain ⟨ax, cx, hxv⟩ := hcx.shape
              obtain ⟨ay, cy, hyv⟩ := hcy.shape
              rw [hxv] at hcx x2
              rw [hyv] at hcy y2
              have HCX := Lib.hid hcx
              have HCY := Lib.hid hcy
              clear hx1 hx2 hcx hcy hxv hyv
              go_wp2_with fail
              go_region_held3 (fun w' => w'.cell? ⟨ra, 1, none⟩ = some (.slice (some ⟨b1, o1, none⟩) g1.length cl1) ∧ w'.cell? ⟨rb, 1, none⟩ = some (.slice (some ⟨b2, o2, none⟩) g2.length cl2) ∧ w'.cell? ⟨b1, o1 + k * 3, none⟩ = some (.int .i64 x.table) ∧ w'.cell? ⟨b1, o1 + k * 3 + 1, none⟩ = some (.int .i64 x.key) ∧ w'.cell? ⟨b1, o1 + k * 3 + 2, none⟩ = some (.slice ax x.cols.length cx) ∧ w'.cell? ⟨b2, o2 + k * 3, none⟩ = some (.int .i64 y.table) ∧ w'.cell? ⟨b2, o2 + k * 3 + 1, none⟩ = some (.int .i64 y.key) ∧ w'.cell? ⟨b2, o2 + k * 3 + 2, none⟩ = some (.slice ay y.cols.length cy))
                (first | go_keep | fail)
                (first | fail | fail)
              · have hfw : Fr wr (((wr.alloc (Obj.cells #[Value.int IntKind.i64 x.table, Value.int IntKind.i64 x.key, Value.slice ax x.cols.length cx] 91)).alloc (Obj.cells #[Value.int IntKind.i64 y.table, Value.int IntKind.i64 y.key, Value.slice ay y.cols.length cy] 91)).drew) Nil := (((Fr.refl wr Nil).alloc _).alloc _).drew
                have hb1 : Bk (((wr.alloc (Obj.cells #[Value.int IntKind.i64 x.table, Value.int IntKind.i64 x.key, Value.slice ax x.cols.length cx] 91)).alloc (Obj.cells #[Value.int IntKind.i64 y.table, Value.int IntKind.i64 y.key, Value.slice ay y.cols.length cy] 91)).drew) wr.heap.size 91 [Value.int IntKind.i64 x.table, Value.int IntKind.i64 x.key, Value.slice ax x.cols.length cx] := ((Bk.new wr 91 #[Value.int IntKind.i64 x.table, Value.int IntKind.i64 x.key, Value.slice ax x.cols.length cx]).alloc _).drew
                have hb2 : Bk (((wr.alloc (Obj.cells #[Value.int IntKind.i64 x.table, Value.int IntKind.i64 x.key, Value.slice ax x.cols.length cx] 91)).alloc (Obj.cells #[Value.int IntKind.i64 y.table, Value.int IntKind.i64 y.key, Value.slice ay y.cols.length cy] 91)).drew) (wr.heap.size + 1) 91 [Value.int IntKind.i64 y.table, Value.int IntKind.i64 y.key, Value.slice ay y.cols.length cy] := by
                  have := Bk.new (wr.alloc (Obj.cells #[Value.int IntKind.i64 x.table, Value.int IntKind.i64 x.key, Value.slice ax x.cols.length cx] 91)) 91 #[Value.int IntKind.i64 y.table, Value.int IntKind.i64 y.key, Value.slice ay y.cols.length cy]
                  rw [World.size_alloc] at this
                  exact this.drew
                have HFW := Lib.hid hfw
                have HB1 := Lib.hid hb1
                have HB2 := Lib.hid hb2
                have u0 := hb1.cell 0
                have u1 := hb1.cell 1
                have u2 := hb1.cell 2
                have v0 := hb2.cell 0
                have v1 := hb2.cell 1
                have v2 := hb2.cell 2
                clear hfw hb1 hb2 x0 x1 x2 y0 y1 y2
                by_cases htk2 : x.table = y.table ∧ x.key = y.key
                · obtain ⟨e1, e2⟩ := htk2
                  have g0 : (x.table != y.table) = false := by rw [bne_eq_false_iff_eq]; exact e1
                  have g1' : (x.key != y.key) = false := by rw [bne_eq_false_iff_eq]; exact e2
                  have HWD : Hid (x.cols.length = y.cols.length) := by
                    have h1 := Hw1.out x.mod (by rw [← Hg1.out]; exact List.mem_map.2 ⟨x, List.mem_of_getElem? HX1.out, rfl⟩)
                    have h2 := Hw2.out y.mod (by rw [← Hg2.out]; exact List.mem_map.2 ⟨y, List.mem_of_getElem? HX2.out, rfl⟩)
                    have h3 : (x.cols.length : Int) = (y.cols.length : Int) := by
                      have h1' : (x.cols.length : Int) = qcols N1 x.table := h1
                      have h2' : (y.cols.length : Int) = qcols N2 y.table := h2
                      rw [h1', h2', HNE.out, e1]
                    have : x.cols.length = y.cols.length := by omega
                    exact this
                  have HE1 := Lib.hid e1
                  have HE2 := Lib.hid e2
                  clear e1 e2
                  go_wp2_with fail
                  go_loopw [9] (fun vj wz => ∃ j : Nat, j ≤ x.cols.length ∧ vj = .int .i64 j ∧ x.cols.take j = y.cols.take j ∧ Fr (((wr.alloc (Obj.cells #[Value.int IntKind.i64 x.table, Value.int IntKind.i64 x.key, Value.slice ax x.cols.length cx] 91)).alloc (Obj.cells #[Value.int IntKind.i64 y.table, Value.int IntKind.i64 y.key, Value.slice ay y.cols.length cy] 91)).drew) wz Nil) (fun vj _ => x.cols.length - (intOf vj).toNat)
                  case atStart => exact ⟨0, by omega, rfl, by simp, Fr.refl _ _⟩
                  case round =>
                    obtain ⟨j, hj, rfl, htj, hfz⟩ := hrel
                    have Htj := Lib.hid htj
                    have Hfz := Lib.hid hfz
                    have u2 := (HB1.out.fr hfz (fun h => h)).cell 2
                    have v2 := (HB2.out.fr hfz (fun h => h)).cell 2
                    clear htj hfz
                    by_cases hjl : j < x.cols.length
                    · have hjl2 : j < y.cols.length := by have := HWD.out; omega
                      have hcx := (HCX.out.fr (HFW.out.trans0 Hfz.out) fun _ _ h => h)
                      have hcy := (HCY.out.fr (HFW.out.trans0 Hfz.out) fun _ _ h => h)
                      obtain ⟨b3, o3, c3, hv3, hc3⟩ := hcx.form (by omega)
                      obtain ⟨b4, o4, c4, hv4, hc4⟩ := hcy.form (by omega)
                      simp only [Value.slice.injEq, true_and] at hv3 hv4
                      obtain ⟨rfl, rfl⟩ := hv3
                      obtain ⟨rfl, rfl⟩ := hv4
                      have hx3 := List.getElem?_eq_getElem hjl
                      have hx4 := List.getElem?_eq_getElem hjl2
                      generalize x.cols[j] = m at hx3
                      generalize y.cols[j] = n at hx4
                      have e3 := hc3 j m hx3
                      have e4 := hc4 j n hx4
                      have j1 : (j : Int) < (x.cols.length : Int) := by omega
                      have j2 : (j : Int) < (y.cols.length : Int) := by omega
                      have HJ := Lib.hid hjl
                      have HX3 := Lib.hid hx3
                      have HX4 := Lib.hid hx4
                      clear hcx hcy hc3 hc4 hx3 hx4
                      by_cases hmn : m = n
                      · have g3 : (m != n) = false := by rw [bne_eq_false_iff_eq]; exact hmn
                        have HT := Lib.hid (take_succ_eq HX3.out HX4.out Htj.out hmn)
                        clear hmn
                        go_wp2_with fail
                        go_quiet (fail)
                        go_wp2_with fail
                        go_roundw
                        case rel => exact ⟨j + 1, HJ.out, by go_num, HT.out, Hfz.out.drewN _⟩
                        case measure => have := HJ.out; simp [intOf]; omega
                      · have g3 : (m != n) = true := by rw [bne_iff_ne]; exact hmn
                        have HN : Hid (¬ (N1 = N2 ∧ L1 = L2)) := by
                          rintro ⟨_, e⟩
                          have h1 : (qrows g1)[k]? = (qrows g2)[k]? := by rw [Hg1.out, Hg2.out, e]
                          simp only [qrows, List.getElem?_map, HX1.out, HX2.out, Option.map_some, Option.some.injEq, QRow.mod, Prod.mk.injEq] at h1
                          have h2 := HX3.out
                          rw [h1.2.2, HX4.out] at h2
                          exact hmn (by simpa using h2.symm)
                        clear hmn
                        go_wp2_with fail
                        go_quiet (fail)
                        go_wp2_with fail
                        go_ret
                        exact ⟨by rw [decide_eq_false HN.out]; rfl, (Hf.out.trans0 (HFW.out.trans0 Hfz.out)).drewN _⟩
                    · have HT : Hid ((qrows g1).take (k + 1) = (qrows g2).take (k + 1)) := by
                        have h1 := take_all_eq Htj.out (by omega) HWD.out
                        have h2 : (qrows g1).take (k + 1) = (qrows g2).take (k + 1) := by
                          rw [List.take_add_one, List.take_add_one, Htk.out]
                          simp [qrows, HX1.out, HX2.out, QRow.mod, HE1.out, HE2.out, h1]
                        exact h2
                      go_wp2_with fail
                      go_roundw
                      case rel => exact ⟨k + 1, by omega, by go_num, HT.out, Hf.out.trans0 (HFW.out.trans0 Hfz.out)⟩
                      case measure => simp [intOf]; omega
                · have HN : Hid (¬ (N1 = N2 ∧ L1 = L2)) := by
                    rintro ⟨_, e⟩
                    have h1 : (qrows g1)[k]? = (qrows g2)[k]? := by rw [Hg1.out, Hg2.out, e]
                    simp only [qrows, List.getElem?_map, HX1.out, HX2.out, Option.map_some, Option.some.injEq, QRow.mod, Prod.mk.injEq] at h1
                    exact htk2 ⟨h1.1, h1.2.1⟩
                  have hff : ((x.table != y.table) = true) ∨ ((x.table != y.table) = false ∧ (x.key != y.key) = true) := by
                    by_cases h1 : x.table = y.table
                    · exact .inr ⟨by rw [bne_eq_false_iff_eq]; exact h1, by rw [bne_iff_ne]; exact fun h2 => htk2 ⟨h1, h2⟩⟩
                    · exact .inl (by rw [bne_iff_ne]; exact h1)
                  clear htk2
                  rcases hff with g0 | ⟨g0, g1'⟩
                  all_goals
                    go_wp2_with fail
                    go_ret
                    exact ⟨by rw [decide_eq_false HN.out]; rfl, Hf.out.trans0 HFW.out⟩
              · have hfw : Fr wr (((wr.alloc (Obj.cells #[Value.int IntKind.i64 y.table, Value.int IntKind.i64 y.key, Value.slice ay y.cols.length cy] 91)).alloc (Obj.cells #[Value.int IntKind.i64 x.table, Value.int IntKind.i64 x.key, Value.slice ax x.cols.length cx] 91)).drew) Nil := (((Fr.refl wr Nil).alloc _).alloc _).drew
                have hb2 : Bk (((wr.alloc (Obj.cells #[Value.int IntKind.i64 y.table, Value.int IntKind.i64 y.key, Value.slice ay y.cols.length cy] 91)).alloc (Obj.cells #[Value.int IntKind.i64 x.table, Value.int IntKind.i64 x.key, Value.slice ax x.cols.length cx] 91)).drew) wr.heap.size 91 [Value.int IntKind.i64 y.table, Value.int IntKind.i64 y.key, Value.slice ay y.cols.length cy] := ((Bk.new wr 91 #[Value.int IntKind.i64 y.table, Value.int IntKind.i64 y.key, Value.slice ay y.cols.length cy]).alloc _).drew
                have hb1 : Bk (((wr.alloc (Obj.cells #[Value.int IntKind.i64 y.table, Value.int IntKind.i64 y.key, Value.slice ay y.cols.length cy] 91)).alloc (Obj.cells #[Value.int IntKind.i64 x.table, Value.int IntKind.i64 x.key, Value.slice ax x.cols.length cx] 91)).drew) (wr.heap.size + 1) 91 [Value.int IntKind.i64 x.table, Value.int IntKind.i64 x.key, Value.slice ax x.cols.length cx] := by
                  have := Bk.new (wr.alloc (Obj.cells #[Value.int IntKind.i64 y.table, Value.int IntKind.i64 y.key, Value.slice ay y.cols.length cy] 91)) 91 #[Value.int IntKind.i64 x.table, Value.int IntKind.i64 x.key, Value.slice ax x.cols.length cx]
                  rw [World.size_alloc] at this
                  exact this.drew
                have HFW := Lib.hid hfw
                have HB1 := Lib.hid hb1
                have HB2 := Lib.hid hb2
                have u0 := hb1.cell 0
                have u1 := hb1.cell 1
                have u2 := hb1.cell 2
                have v0 := hb2.cell 0
                have v1 := hb2.cell 1
                have v2 := hb2.cell 2
                clear hfw hb1 hb2 x0 x1 x2 y0 y1 y2
                by_cases htk2 : x.table = y.table ∧ x.key = y.key
                · obtain ⟨e1, e2⟩ := htk2
                  have g0 : (x.table != y.table) = false := by rw [bne_eq_false_iff_eq]; exact e1
                  have g1' : (x.key != y.key) = false := by rw [bne_eq_false_iff_eq]; exact e2
                  have HWD : Hid (x.cols.length = y.cols.length) := by
                    have h1 := Hw1.out x.mod (by rw [← Hg1.out]; exact List.mem_map.2 ⟨x, List.mem_of_getElem? HX1.out, rfl⟩)
                    have h2 := Hw2.out y.mod (by rw [← Hg2.out]; exact List.mem_map.2 ⟨y, List.mem_of_getElem? HX2.out, rfl⟩)
                    have h3 : (x.cols.length : Int) = (y.cols.length : Int) := by
                      have h1' : (x.cols.length : Int) = qcols N1 x.table := h1
                      have h2' : (y.cols.length : Int) = qcols N2 y.table := h2
                      rw [h1', h2', HNE.out, e1]
                    have : x.cols.length = y.cols.length := by omega
                    exact this
                  have HE1 := Lib.hid e1
                  have HE2 := Lib.hid e2
                  clear e1 e2
                  go_wp2_with fail
                  go_loopw [9] (fun vj wz => ∃ j : Nat, j ≤ x.cols.length ∧ vj = .int .i64 j ∧ x.cols.take j = y.cols.take j ∧ Fr (((wr.alloc (Obj.cells #[Value.int IntKind.i64 y.table, Value.int IntKind.i64 y.key, Value.slice ay y.cols.length cy] 91)).alloc (Obj.cells #[Value.int IntKind.i64 x.table, Value.int IntKind.i64 x.key, Value.slice ax x.cols.length cx] 91)).drew) wz Nil) (fun vj _ => x.cols.length - (intOf vj).toNat)
                  case atStart => exact ⟨0, by omega, rfl, by simp, Fr.refl _ _⟩
                  case round =>
                    obtain ⟨j, hj, rfl, htj, hfz⟩ := hrel
                    have Htj := Lib.hid htj
                    have Hfz := Lib.hid hfz
                    have u2 := (HB1.out.fr hfz (fun h => h)).cell 2
                    have v2 := (HB2.out.fr hfz (fun h => h)).cell 2
                    clear htj hfz
                    by_cases hjl : j < x.cols.length
                    · have hjl2 : j < y.cols.length := by have := HWD.out; omega
                      have hcx := (HCX.out.fr (HFW.out.trans0 Hfz.out) fun _ _ h => h)
                      have hcy := (HCY.out.fr (HFW.out.trans0 Hfz.out) fun _ _ h => h)
                      obtain ⟨b3, o3, c3, hv3, hc3⟩ := hcx.form (by omega)
                      obtain ⟨b4, o4, c4, hv4, hc4⟩ := hcy.form (by omega)
                      simp only [Value.slice.injEq, true_and] at hv3 hv4
                      obtain ⟨rfl, rfl⟩ := hv3
                      obtain ⟨rfl, rfl⟩ := hv4
                      have hx3 := List.getElem?_eq_getElem hjl
                      have hx4 := List.getElem?_eq_getElem hjl2
                      generalize x.cols[j] = m at hx3
                      generalize y.cols[j] = n at hx4
                      have e3 := hc3 j m hx3
                      have e4 := hc4 j n hx4
                      have j1 : (j : Int) < (x.cols.length : Int) := by omega
                      have j2 : (j : Int) < (y.cols.length : Int) := by omega
                      have HJ := Lib.hid hjl
                      have HX3 := Lib.hid hx3
                      have HX4 := Lib.hid hx4
                      clear hcx hcy hc3 hc4 hx3 hx4
                      by_cases hmn : m = n
                      · have g3 : (m != n) = false := by rw [bne_eq_false_iff_eq]; exact hmn
                        have HT := Lib.hid (take_succ_eq HX3.out HX4.out Htj.out hmn)
                        clear hmn
                        go_wp2_with fail
                        go_quiet (fail)
                        go_wp2_with fail
                        go_roundw
                        case rel => exact ⟨j + 1, HJ.out, by go_num, HT.out, Hfz.out.drewN _⟩
                        case measure => have := HJ.out; simp [intOf]; omega
                      · have g3 : (m != n) = true := by rw [bne_iff_ne]; exact hmn
                        have HN : Hid (¬ (N1 = N2 ∧ L1 = L2)) := by
                          rintro ⟨_, e⟩
                          have h1 : (qrows g1)[k]? = (qrows g2)[k]? := by rw [Hg1.out, Hg2.out, e]
                          simp only [qrows, List.getElem?_map, HX1.out, HX2.out, Option.map_some, Option.some.injEq, QRow.mod, Prod.mk.injEq] at h1
                          have h2 := HX3.out
                          rw [h1.2.2, HX4.out] at h2
                          exact hmn (by simpa using h2.symm)
                        clear hmn
                        go_wp2_with fail
                        go_quiet (fail)
                        go_wp2_with fail
                        go_ret
                        exact ⟨by rw [decide_eq_false HN.out]; rfl, (Hf.out.trans0 (HFW.out.trans0 Hfz.out)).drewN _⟩
                    · have HT : Hid ((qrows g1).take (k + 1) = (qrows g2).take (k + 1)) := by
                        have h1 := take_all_eq Htj.out (by omega) HWD.out
                        have h2 : (qrows g1).take (k + 1) = (qrows g2).take (k + 1) := by
                          rw [List.take_add_one, List.take_add_one, Htk.out]
                          simp [qrows, HX1.out, HX2.out, QRow.mod, HE1.out, HE2.out, h1]
                        exact h2
                      go_wp2_with fail
                      go_roundw
                      case rel => exact ⟨k + 1, by omega, by go_num, HT.out, Hf.out.trans0 (HFW.out.trans0 Hfz.out)⟩
                      case measure => simp [intOf]; omega
                · have HN : Hid (¬ (N1 = N2 ∧ L1 = L2)) := by
                    rintro ⟨_, e⟩
                    have h1 : (qrows g1)[k]? = (qrows g2)[k]? := by rw [Hg1.out, Hg2.out, e]
                    simp only [qrows, List.getElem?_map, HX1.out, HX2.out, Option.map_some, Option.some.injEq, QRow.mod, Prod.mk.injEq] at h1
                    exact htk2 ⟨h1.1, h1.2.1⟩
                  have hff : ((x.table != y.table) = true) ∨ ((x.table != y.table) = false ∧ (x.key != y.key) = true) := by
                    by_cases h1 : x.table = y.table
                    · exact .inr ⟨by rw [bne_eq_false_iff_eq]; exact h1, by rw [bne_iff_ne]; exact fun h2 => htk2 ⟨h1, h2⟩⟩
                    · exact .inl (by rw [bne_iff_ne]; exact h1)
                  clear htk2
                  rcases hff with g0 | ⟨g0, g1'⟩
                  all_goals
                    go_wp2_with fail
                    go_ret
                    exact ⟨by rw [decide_eq_false HN.out]; rfl, Hf.out.trans0 HFW.out⟩
            · have HLE : Hid (L1 = L2) := by
                have h1 := take_all_eq Htk.out (by simp [qrows]; omega) (by simp [qrows]; exact HGl.out)
                rw [Hg1.out, Hg2.out] at h1
                exact h1
              go_wp2_with fail
              go_ret
              exact ⟨by rw [decide_eq_true ⟨HNE.out, HLE.out⟩]; rfl, Hf.out⟩
    · have f2 : ((g1.length : Int) != (g2.length : Int)) = true := by rw [bne_iff_ne]; omega
      have HN : Hid (¬ (N1 = N2 ∧ L1 = L2)) := fun e => hGl (by have := congrArg List.length e.2; rw [← Hg1.out, ← Hg2.out] at this; simpa [qrows] using this)
      clear hGl hNl
      go_enter Try.func23, Try.ntmps23
      go_wp2_with fail
      go_quiet (fail)
      go_wp2_with fail
      go_ret
      exact ⟨by rw [decide_eq_false HN.out]; rfl, (Fr.refl w Nil).drewN _⟩
  · have f1 : ((N1.length : Int) != (N2.length : Int)) = true := by rw [bne_iff_ne]; omega
    have HN : Hid (¬ (N1 = N2 ∧ L1 = L2)) := fun e => hNl (congrArg List.length e.1)
    clear hNl
    go_enter Try.func23, Try.ntmps23
    go_wp2_with fail
    go_quiet (fail)
    go_wp2_with fail
    go_ret
    exact ⟨by rw [decide_eq_false HN.out]; rfl, (Fr.refl w Nil).drewN _⟩
end Go.Proofs.Ytljgifjokdppgaa
