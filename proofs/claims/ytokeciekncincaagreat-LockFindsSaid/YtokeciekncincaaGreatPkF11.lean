/-
  Walk of slices.DeleteFunc of holds, by whose they are; a queue without one.
  No condition but sizes.
-/
import Derived.Test.YtokeciekncincaaGreatPkF10
import Derived.Shelf.Abstract
namespace Go.Proofs.YtokeciekncincaaGreat
open Go Go.RowKit Go.Maps

def notOf (who : Int) (l : List (Int × Int)) : List (Int × Int) := l.filter fun p => !decide (p.1 = who)
def ownOf (v : Value) (k : Nat) : Prop := v.ownBlock = some k
theorem Tryz.zeroH (w : World) : (zeroValue 42).run Tryz.prog w = .ok (.agg #[.int .i64 0, .int .u8 0]) w := by kernel_rfl
/-- What is known while holds are moved ahead. -/
structure DelAt (who : Int) (l ps : List (Int × Int)) (i j : Nat) : Prop where
  len : ps.length = l.length
  lt : i < j
  le : j ≤ l.length
  got : ps.take i = notOf who (l.take j)
  left : ps.drop j = l.drop j
theorem DelAt.start {who : Int} {l : List (Int × Int)} {i : Nat} {m : Int} (hi : i < l.length) (h : ∀ p ∈ l.take i, p.1 ≠ who) (hm : l[i]? = some (who, m)) : DelAt who l l i (i + 1) := by
  refine ⟨rfl, by omega, by omega, ?_, rfl⟩
  have hg : l[i] = (who, m) := by
    rw [List.getElem?_eq_getElem hi] at hm
    exact Option.some.inj hm
  rw [List.take_succ_eq_append_getElem hi, hg]
  unfold notOf
  rw [List.filter_append]
  have h1 : (l.take i).filter (fun p => !decide (p.1 = who)) = l.take i := List.filter_eq_self.2 fun p hp => by simp [h p hp]
  rw [h1]
  simp
theorem DelAt.at {who : Int} {l ps : List (Int × Int)} {i j : Nat} (h : DelAt who l ps i j) : ps[j]? = l[j]? := by
  have h1 := congrArg (fun x : List (Int × Int) => x[0]?) h.left
  simpa using h1
theorem DelAt.skip {who : Int} {l ps : List (Int × Int)} {i j : Nat} (h : DelAt who l ps i j) (hj : j < l.length) {p : Int × Int} (hp : l[j]? = some p) (hw : p.1 = who) : DelAt who l ps i (j + 1) := by
  have hg : l[j] = p := by
    rw [List.getElem?_eq_getElem hj] at hp
    exact Option.some.inj hp
  refine ⟨h.len, by have := h.lt; omega, by omega, ?_, ?_⟩
  · rw [h.got, List.take_succ_eq_append_getElem hj, hg]
    unfold notOf
    rw [List.filter_append]
    simp [hw]
  · have := congrArg (List.drop 1) h.left
    simpa [Nat.add_comm] using this
theorem DelAt.keep {who : Int} {l ps : List (Int × Int)} {i j : Nat} (h : DelAt who l ps i j) (hj : j < l.length) {p : Int × Int} (hp : l[j]? = some p) (hw : p.1 ≠ who) : DelAt who l (ps.set i p) (i + 1) (j + 1) := by
  have hg : l[j] = p := by
    rw [List.getElem?_eq_getElem hj] at hp
    exact Option.some.inj hp
  have hlt := h.lt
  have hlen := h.len
  refine ⟨by rw [List.length_set]; exact h.len, by omega, by omega, ?_, ?_⟩
  · rw [List.take_succ_eq_append_getElem (by rw [List.length_set]; omega), List.getElem_set_self, List.take_set_of_le (Nat.le_refl _), h.got, List.take_succ_eq_append_getElem hj, hg]
    unfold notOf
    rw [List.filter_append]
    simp [hw]
  · have := congrArg (List.drop 1) h.left
    rw [List.drop_set_of_lt (by omega)]
    simpa [Nat.add_comm] using this
def DelRet (v : Value) (l : List (Int × Int)) (who : Int) (w : World) (e : Ending) (w' : World) : Prop :=
  ∃ v', e = .returned v' ∧ OwnH w' v' (notOf who l) ∧ (∀ k, v'.ownBlock = some k → v.ownBlock = some k) ∧ Fr w w' (ownOf v)
set_option maxRecDepth 100000 in
set_option maxHeartbeats 4000000 in
theorem delf_any {g wb : Nat} {who : Int} {w : World} {v : Value} {l : List (Int × Int)} (hT : Tells g wb who w (ownOf v)) (hv : OwnH w v l) (hl : l.length ≤ 1000000)
    (hg : ∀ args w, (callFunc g args).run Tryz.prog w = .ok (.enter g args) w) :
    Calls Tryz.prog 87 #[v, .func (.func g) #[] #[.pointer (some ⟨wb, 0, none⟩)]] w (DelRet v l who w) := by
  have cI := idx_any (hT := fun p W hf => hT p W hf.of_nil) (SlAt.of_own hv).1 hl hg
  have HT := Lib.hid hT
  have HV := Lib.hid hv
  obtain ⟨a, cap, rfl⟩ := hv.shape
  clear hT hv
  go_enter Tryz.func87, Tryz.ntmps87
  go_wp2_with fail
  refine cI.mono ?_
  rintro e w1 ⟨r, rfl, hi, hf⟩
  have HF := Lib.hid hf
  clear hf cI
  rcases hi with ⟨rfl, hn⟩ | ⟨i, rfl, hi, hn, m, hm⟩
  · have HN := Lib.hid hn
    clear hn
    go_wp2_with fail
    go_ret
    refine ⟨_, rfl, ?_, fun k hk => hk, HF.out.of_nil⟩
    have : notOf who l = l := List.filter_eq_self.2 fun p hp => by simp [HN.out p hp]
    rw [this]
    exact HV.out.fr HF.out fun _ _ h => h
  · have HD := Lib.hid (DelAt.start hi hn hm)
    obtain ⟨b, cap', hvv, hnc, _⟩ := HV.out.form (by omega)
    simp only [Value.slice.injEq, true_and] at hvv
    obtain ⟨rfl, rfl⟩ := hvv
    have HV1 := Lib.hid (HV.out.fr HF.out fun _ _ h => h)
    have hne : ((i : Int) == -1) = false := by
      rw [beq_eq_false_iff_ne]; omega
    clear hn hm
    go_wp2_with fail
    go_loopw [5, 6] (fun vi vj wr => ∃ (i j : Nat) (ps : List (Int × Int)), vi = .int .i64 (i : Int) ∧ vj = .int .i64 (j : Int) ∧ Hid (DelAt who l ps i j) ∧ Hid (OwnH wr (.slice (some ⟨b, 0, none⟩) ps.length cap) ps) ∧ Hid (Fr w wr (ownOf (.slice (some ⟨b, 0, none⟩) l.length cap)))) (fun _ vj _ => l.length - (intOf vj).toNat)
    case atStart => exact ⟨i, i + 1, l, rfl, by go_num, HD.out, HV1.out, HF.out.of_nil⟩
    case round =>
      clear HV1 HD hi hne
      obtain ⟨i, j, ps, rfl, rfl, HD, HO, HW⟩ := hrel
      obtain ⟨wo, rfl⟩ : ∃ wo : World, wo = wr := ⟨_, rfl⟩
      have hjl := HD.out.le
      have hij := HD.out.lt
      by_cases hlt : j < l.length
      · have hkl : (j : Int) < (l.length : Int) := by omega
        obtain ⟨b', cap'', hvv, _, hcl⟩ := HO.out.form (by rw [HD.out.len]; omega)
        simp only [Value.slice.injEq, Option.some.injEq, Addr.mk.injEq, and_true, true_and] at hvv
        obtain ⟨rfl, rfl⟩ := hvv
        have hgl := List.getElem?_eq_getElem hlt
        have hga := HD.out.at
        generalize l[j] = p at hgl
        rw [hgl] at hga
        obtain ⟨p0, p1⟩ := hcl j p hga
        have hip : i < ps.length := by rw [HD.out.len]; omega
        obtain ⟨z0, z1⟩ := hcl i _ (List.getElem?_eq_getElem hip)
        have hf0 : Fr wo (wo.alloc (.cells #[.int .i64 p.1, .int .u8 p.2] 42)) Nil := (Fr.refl _ Nil).alloc _
        have HGL := Lib.hid hgl
        have cT := HT.out p
        have HF0 := Lib.hid hf0
        have HB := Lib.hid (Bk.new wo 42 #[.int .i64 p.1, .int .u8 p.2])
        have z0' := hf0.cell z0 (fun h => h)
        have z1' := hf0.cell z1 (fun h => h)
        have HOF : Hid (∀ c, wo.frozen? ⟨b, c, none⟩ = false) := fun c => HO.out.free rfl c
        obtain ⟨y1, y2⟩ := ps[i]
        obtain ⟨p1', p2'⟩ := p
        simp only at p0 p1 z0' z1'
        clear hcl hga hgl hf0 z0 z1
        go_wp2_with fail
        refine (cT _ (HW.out.trans0 HF0.out)).mono ?_
        rintro e w3 ⟨rfl, hf3⟩
        have HF3 := Lib.hid (HF0.out.trans0 hf3)
        have hbc := HB.out.fr hf3 (fun h => h)
        have q0 := hbc.cell 0
        have q1 := hbc.cell 1
        have y0 := hf3.cell z0' (fun h => h)
        have y1 := hf3.cell z1' (fun h => h)
        clear hf3 cT hbc z0' z1' p0 p1
        cases hb : (p1' == who) with
        | true =>
          have HB2 := Lib.hid (eq_of_beq hb)
          clear hb
          go_wp2_with fail
          go_roundw
          case rel => exact ⟨i, j + 1, ps, rfl, by go_num, HD.out.skip hlt HGL.out HB2.out, HO.out.fr HF3.out (fun _ _ h => h), HW.out.trans0 HF3.out⟩
          case measure => simp [intOf]; omega
        | false =>
          have HB2 : Hid (p1' ≠ who) := fun e => by rw [e] at hb; simp at hb
          have HO3 := Lib.hid (HO.out.fr HF3.out (fun _ _ h => h))
          have hfz : ∀ c, w3.frozen? ⟨b, c, none⟩ = false := fun c => HO3.out.free rfl c
          have f0 := hfz (i * 2)
          have f1 := hfz (i * 2 + 1)
          have hil : (i : Int) < (l.length : Int) := by omega
          clear hb hfz
          go_wp2_with fail
          go_roundw
          case rel =>
            refine ⟨i + 1, j + 1, ps.set i (p1', p2'), by go_num, by go_num, HD.out.keep hlt HGL.out HB2.out, ?_, ?_⟩
            · exact HO3.out.set i (p1', p2')
            · exact Fr.setCell (p := ⟨b, i * 2 + 1, none⟩) (Fr.setCell (p := ⟨b, i * 2, none⟩) (HW.out.trans0 HF3.out) (fun _ => rfl) _) (fun _ => rfl) _
          case measure => simp [intOf]; omega
      · obtain rfl : j = l.length := by omega
        have hnp := hnc
        have HTK := HO.out.take rfl (show i ≤ ps.length by rw [HD.out.len]; omega)
        have hli : (ps.take i).length = i := by rw [List.length_take, HD.out.len]; omega
        unfold OwnH at HTK
        rw [hli] at HTK
        obtain ⟨w2, hrun, hown2, hgr2⟩ := run_clear_many (P := Tryz.prog) wo 38 0 42 _ 2 (l.length - i) Tryz.underlying38 Tryz.zeroH rfl (zeros_one _ (fun i hi => by
          have : i = 0 ∨ i = 1 := by simp [Value.cells] at hi; omega
          rcases this with rfl | rfl <;> rfl) _) b i cap _ HTK (by omega) (by omega) (cap - i)
        have HO2 := Lib.hid hown2
        have HG2 := Lib.hid hgr2
        have b5 : ¬ cap = i := by omega
        have hil : (i : Int) ≤ (l.length : Int) := by omega
        have HLI := Lib.hid hli
        clear hown2 hgr2 HTK hli
        go_wp2_with fail
        go_ret
        refine ⟨_, rfl, ?_, fun k hk => hk, HW.out.grown HG2.out fun k hk _ => ?_⟩
        · have h1 := HO2.out
          have h2 := HD.out.got
          rw [List.take_length] at h2
          rw [h2] at h1
          have h3 := HLI.out
          rw [h2] at h3
          unfold OwnH
          rw [h3]
          exact h1
        · cases hk; rfl
/-- A queue without one. -/
theorem enters_without : ∀ args w, (callFunc 88 args).run Tryz.prog w = .ok (.enter 88 args) w := Go.Proofs.enters_of Tryz.func88 (by kernel_rfl) rfl
set_option maxHeartbeats 1000000 in
theorem without_any {who : Int} {w : World} {v : Value} {l : List (Int × Int)} (hv : OwnH w v l) (hl : l.length ≤ 1000000) :
    Calls Tryz.prog 62 #[v, .int .i64 who] w (DelRet v l who w) := by
  obtain ⟨wx, hwx⟩ : ∃ wx, w.alloc (.cells #[.int .i64 who] 2) = wx := ⟨_, rfl⟩
  have hf : Fr w wx Nil := by rw [← hwx]; exact (Fr.refl w Nil).alloc _
  have hb : Bk wx w.heap.size 2 [.int .i64 who] := by rw [← hwx]; exact Bk.new w _ _
  have hv2 := hv.fr hf (fun _ _ h => h)
  have cD := delf_any (who := who) (wb := w.heap.size) (tells_without (hb.cell 0) (fun e => by have := hv.lt e; omega)) hv2 hl enters_without
  have HF := Lib.hid hf
  obtain ⟨a, cap, rfl⟩ := hv.shape
  clear hv hv2 hf hb
  go_enter Tryz.func62, Tryz.ntmps62
  go_wp2_with fail
  refine cD.mono ?_
  rintro e w1 ⟨v', rfl, h1, h2, h3⟩
  obtain ⟨a', cap', rfl⟩ := h1.shape
  have H1 := Lib.hid h1
  have H2 := Lib.hid h2
  have H3 := Lib.hid h3
  clear h1 h2 h3 cD
  go_wp2_with fail
  go_ret
  exact ⟨_, rfl, H1.out, H2.out, HF.out.of_nil.trans H3.out fun _ _ h => h⟩
end Go.Proofs.YtokeciekncincaaGreat
