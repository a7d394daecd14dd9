/-
  Walks of slices.IndexFunc and slices.DeleteFunc of holds, by whose they are.
  No condition but sizes.
  Rows of the call's own: a shorter look; clearing what stands behind; one element set.
  No condition.
  Walk of slices.DeleteFunc of holds, by whose they are; a queue without one.
  No condition but sizes.
  Walks of slices.Grow from nothing, slices.Concat of two rows of holds, a spot's queue.
  No condition but sizes.
  Walk of can: may a wish be granted?
  Of modes that are known.
  One grant after another, in plain lists; a spot's blocks behind a grant.
  No condition.
  What the maps of a table of locks answer, and deletes in them, as equations of runs.
  No condition.
  Walks of New, Held, Queue: what is told of a spot.
  No condition but sizes.
  Walk of Used: how many entries there are.
  No condition but sizes.
  Walk of Locks.Queue.
  No condition but sizes.
-/
import Derived.Test.YtokeciekncincabGreatPkC7
import Derived.Test.YtokeciekncincabGreatPkC1
import Derived.Laws.AppendOwn
import Derived.Laws.EntriesVeiled
import Derived.Laws.OwnMore
import Derived.Shelf.Abstract
import Derived.Lib.AppendZeros
import Derived.Maps.OwnSet
namespace Go.Proofs.YtokeciekncincabGreat
open Go Go.RowKit Go.Maps

theorem wclos_any (p : Int × Int) (wb : Nat) (who : Int) (W : World) (q : W.cell? ⟨wb, 0, none⟩ = some (.int .i64 who)) :
    Calls Tryz.prog 91 #[.agg #[.int .i64 p.1, .int .u8 p.2], .pointer (some ⟨wb, 0, none⟩)] W fun e W' => e = .returned (.bool (p.1 == who)) ∧ Fr W W' Nil := by
  obtain ⟨p1, p2⟩ := p
  have hf := (Fr.refl W Nil).alloc (.cells #[.int .i64 p1, .int .u8 p2] 67)
  have q1 := hf.cell q (fun h => h)
  have q2 := (Bk.new W 67 #[.int .i64 p1, .int .u8 p2]).cell 0
  have HF := Lib.hid hf
  clear hf q
  go_enter Tryz.func91, Tryz.ntmps91
  go_wp2_with fail
  go_ret
  exact ⟨rfl, HF.out⟩
theorem iclos_any (p : Int × Int) (wb : Nat) (who : Int) (W : World) (q : W.cell? ⟨wb, 0, none⟩ = some (.int .i64 who)) :
    Calls Tryz.prog 49 #[.agg #[.int .i64 p.1, .int .u8 p.2], .pointer (some ⟨wb, 0, none⟩)] W fun e W' => e = .returned (.bool (p.1 == who)) ∧ Fr W W' Nil := by
  obtain ⟨p1, p2⟩ := p
  have hf := (Fr.refl W Nil).alloc (.cells #[.int .i64 p1, .int .u8 p2] 67)
  have q1 := hf.cell q (fun h => h)
  have q2 := (Bk.new W 67 #[.int .i64 p1, .int .u8 p2]).cell 0
  have HF := Lib.hid hf
  clear hf q
  go_enter Tryz.func49, Tryz.ntmps49
  go_wp2_with fail
  go_ret
  exact ⟨rfl, HF.out⟩
/-- Where one's stands first; -1: nowhere. -/
def IdxIs (l : List (Int × Int)) (who r : Int) : Prop :=
  (r = -1 ∧ ∀ p ∈ l, p.1 ≠ who) ∨ ∃ i : Nat, r = (i : Int) ∧ i < l.length ∧ (∀ p ∈ l.take i, p.1 ≠ who) ∧ ∃ m, l[i]? = some (who, m)
/-- A function value that tells whose a hold is, wherever what lies below N, but S, lies as it lay. -/
def Tells (g : Nat) (wb : Nat) (who : Int) (w : World) (S : Nat → Prop) : Prop :=
  ∀ (p : Int × Int) (W : World), Fr w W S → Calls Tryz.prog g #[.agg #[.int .i64 p.1, .int .u8 p.2], .pointer (some ⟨wb, 0, none⟩)] W fun e W' => e = .returned (.bool (p.1 == who)) ∧ Fr W W' Nil
theorem tells_without {wb : Nat} {who : Int} {w : World} {S : Nat → Prop} (q : w.cell? ⟨wb, 0, none⟩ = some (.int .i64 who)) (hS : ¬ S wb) : Tells 91 wb who w S :=
  fun p W hf => wclos_any p wb who W (hf.cell q hS)
theorem tells_waits {wb : Nat} {who : Int} {w : World} {S : Nat → Prop} (q : w.cell? ⟨wb, 0, none⟩ = some (.int .i64 who)) (hS : ¬ S wb) : Tells 49 wb who w S :=
  fun p W hf => iclos_any p wb who W (hf.cell q hS)
set_option maxRecDepth 100000 in
set_option maxHeartbeats 1000000 in
theorem idx_any {g wb : Nat} {who : Int} {w : World} {v : Value} {l : List (Int × Int)} (hT : Tells g wb who w Nil) (hv : SlAt w 2 v l.length (l.flatMap hold2)) (hl : l.length ≤ 1000000)
    (hg : ∀ args w, (callFunc g args).run Tryz.prog w = .ok (.enter g args) w) :
    Calls Tryz.prog 48 #[v, .func (.func g) #[] #[.pointer (some ⟨wb, 0, none⟩)]] w fun e w' => ∃ r, e = .returned (.int .i64 r) ∧ IdxIs l who r ∧ Fr w w' Nil := by
  obtain ⟨a, cap, rfl⟩ := hv.shape
  have HT := Lib.hid hT
  have HV := Lib.hid hv
  clear hT hv
  go_enter Tryz.func48, Tryz.ntmps48
  go_wp2_with fail
  go_loopw [8] (fun vi wr => ∃ k : Nat, k ≤ l.length ∧ vi = .int .i64 (k : Int) ∧ Hid (∀ p ∈ l.take k, p.1 ≠ who) ∧ Hid (Fr w wr Nil)) (fun vi _ => l.length - (intOf vi).toNat)
  case atStart => exact ⟨0, by omega, rfl, (fun p hp => by simp at hp), Fr.refl _ _⟩
  case round =>
    obtain ⟨k, hk, rfl, HN, HF⟩ := hrel
    obtain ⟨wo, rfl⟩ : ∃ wo : World, wo = wr := ⟨_, rfl⟩
    by_cases hlt : k < l.length
    · have hkl : (k : Int) < (l.length : Int) := by omega
      obtain ⟨b, off, cap', hv, hc⟩ := flat_form (n := 2) (f := hold2) (fun _ => rfl) (by decide) (HV.out.fr0 HF.out) (by omega)
      cases hv
      have hgt := List.getElem?_eq_getElem hlt
      have HTK : Hid (l.take (k + 1) = l.take k ++ [l[k]]) := List.take_succ_eq_append_getElem hlt
      generalize l[k] = p at hgt HTK
      have HGT := Lib.hid hgt
      have p0 := hc k p hgt 0 _ rfl
      have p1 := hc k p hgt 1 _ rfl
      simp only [Nat.add_zero] at p0 p1
      clear hc hgt
      have cT := HT.out p
      obtain ⟨p1', p2'⟩ := p
      go_wp2_with fail
      refine (cT wo HF.out).mono ?_
      rintro e w1 ⟨rfl, hf1⟩
      have HF1 := Lib.hid (HF.out.trans0 hf1)
      clear hf1 cT
      cases hb : (p1' == who) with
      | true =>
        have HB := Lib.hid (eq_of_beq hb)
        clear hb
        go_wp2_with fail
        go_ret
        exact ⟨_, rfl, .inr ⟨k, rfl, hlt, HN.out, p2', by rw [HGT.out, ← HB.out]⟩, HF1.out⟩
      | false =>
        have HB : Hid (p1' ≠ who) := fun e => by rw [e] at hb; simp at hb
        clear hb
        go_wp2_with fail
        go_roundw
        case rel => exact ⟨k + 1, by omega, by go_num, (by rw [HTK.out]; intro q hq; rcases List.mem_append.1 hq with hq | hq; exact HN.out q hq; simp at hq; subst hq; exact HB.out), HF1⟩
        case measure => simp [intOf]; omega
    · obtain rfl : k = l.length := by omega
      go_wp2_with fail
      go_ret
      exact ⟨_, rfl, .inl ⟨rfl, by have := HN.out; rwa [List.take_length] at this⟩, HF.out⟩
end Go.Proofs.YtokeciekncincabGreat
namespace Go.Proofs.YtokeciekncincabGreat
open Go Go.RowKit Go.Maps

/-- A shorter look at an owned row. -/
theorem own_take {w : World} {e : TypeId} {size b n cap i : Nat} {xs : List Value} (h : w.ownsRow 0 e size (.slice (some ⟨b, 0, none⟩) n cap) n xs) (hi : i ≤ n) :
    w.ownsRow 0 e size (.slice (some ⟨b, 0, none⟩) i cap) i (xs.take (i * size)) := by
  rcases h.2 with ⟨h', _⟩ | ⟨g, cap', cur, h', hb, hg, hnc, hcm, hcs, htake⟩
  · simp at h'
  · simp only [Value.slice.injEq, Option.some.injEq, Addr.mk.injEq, and_true, true_and] at h'
    obtain ⟨rfl, rfl⟩ := h'
    have hle : i * size ≤ n * size := Nat.mul_le_mul_right _ hi
    refine ⟨by rw [List.length_take, h.1]; omega, .inr ⟨b, cap, cur, rfl, hb, hg, by omega, hcm, hcs, ?_⟩⟩
    rw [← htake, List.take_take]
    congr 1
    omega
/-- 'clear' of what stands behind what is owned: what is owned stays. -/
theorem run_clear_many {P : Program} (w : World) (t ty e : TypeId) (z : Value) (size m : Nat) (ht : P.underlying t = some (.slice e)) (hz : ∀ w, (zeroValue e).run P w = .ok z w) (hzs : z.cells.size = size) (hz1 : ∀ u ∈ (Builtin.zeroCells z.cells m).toList, u.oneCell' = true)
    (b n cap : Nat) (xs : List Value) (hown : w.ownsRow 0 e size (.slice (some ⟨b, 0, none⟩) n cap) n xs) (hm : 0 < m) (hc : n + m ≤ cap) (c : Nat) :
    ∃ w', (Builtin.clear_ #[t] ty #[.slice (some ⟨b, n * size, none⟩) m c]).run P w = .ok (.tuple #[]) w' ∧ w'.ownsRow 0 e size (.slice (some ⟨b, 0, none⟩) n cap) n xs ∧ w.grownBy w' (some b) := by
  rcases hown.2 with ⟨h', _⟩ | ⟨g, cap', cur, h', hb, hg, hnc, hcm, hcs, htake⟩
  · simp at h'
  simp only [Value.slice.injEq, Option.some.injEq, Addr.mk.injEq, and_true, true_and] at h'
  obtain ⟨rfl, rfl⟩ := h'
  have hfit : n * size + 0 + (Builtin.zeroCells z.cells m).toList.length ≤ cur.size := by
    rw [hcs, Array.length_toList, size_zeroCells, hzs]
    have : (n + m) * size ≤ cap * size := Nat.mul_le_mul_right _ hc
    rw [Nat.add_mul] at this
    omega
  have hst := run_storeCells_at P b (n * size) e (Builtin.zeroCells z.cells m).toList 0 cur w hg hfit hz1
  obtain ⟨m', rfl⟩ : ∃ m', m = m' + 1 := ⟨m - 1, by omega⟩
  have hrun : (Builtin.clear_ #[t] ty #[.slice (some ⟨b, n * size, none⟩) (m' + 1) c]).run P w = .ok (.tuple #[]) (w.setRow b (cur.toList.take (n * size) ++ (Builtin.zeroCells z.cells (m' + 1)).toList ++ cur.toList.drop (n * size + (Builtin.zeroCells z.cells (m' + 1)).toList.length)).toArray) := by
    simp only [Nat.add_zero] at hst
    simp [Builtin.clear_, run_underlying ht, hz, hst]
  refine ⟨_, hrun, ⟨hown.1, .inr ⟨b, cap, _, rfl, hb, setRow_heap w b cur _ e _ hg, hnc, hcm, ?_, ?_⟩⟩, ⟨rfl, rfl, rfl, by simp, fun k _ hk => setRow_other w b k _ (fun e => hk (by simp [e]))⟩⟩
  · simp only [List.size_toArray, List.length_append, List.length_take, List.length_drop, Array.length_toList]
    simp only [Array.length_toList] at hfit
    omega
  · have hle : n * size ≤ cur.toList.length := by rw [Array.length_toList]; omega
    rw [← htake]
    show List.take (n * size) (cur.toList.take (n * size) ++ (Builtin.zeroCells z.cells (m' + 1)).toList ++ cur.toList.drop (n * size + (Builtin.zeroCells z.cells (m' + 1)).toList.length)) = _
    rw [List.append_assoc, List.take_append_of_le_length (by rw [List.length_take]; omega), List.take_take]
    congr 1
    omega
theorem zeros_one (z : Array Value) (hz : ∀ i, i < z.size → (z[i]!).oneCell' = true) (m : Nat) : ∀ u ∈ (Builtin.zeroCells z m).toList, u.oneCell' = true := by
  intro u hu
  simp only [Builtin.zeroCells, Array.toList_map, List.mem_map, Array.toList_range, List.mem_range] at hu
  obtain ⟨i, hi, rfl⟩ := hu
  refine hz _ (Nat.mod_lt _ ?_)
  rcases Nat.eq_zero_or_pos z.size with h | h
  · rw [h] at hi; omega
  · exact h
theorem flat_set (ps : List (Int × Int)) (i : Nat) (p : Int × Int) : ((ps.flatMap hold2).set (i * 2) (.int .i64 p.1)).set (i * 2 + 1) (.int .u8 p.2) = (ps.set i p).flatMap hold2 := by
  induction ps generalizing i with
  | nil => rfl
  | cons x ps ih =>
    cases i with
    | zero => rfl
    | succ i =>
      have e : (i + 1) * 2 = i * 2 + 1 + 1 := by omega
      rw [e]
      simp only [List.flatMap_cons, List.cons_append, List.nil_append, List.set_cons_succ, ih]
theorem OwnH.set {w : World} {b cap : Nat} {ps : List (Int × Int)} (h : OwnH w (.slice (some ⟨b, 0, none⟩) ps.length cap) ps) (i : Nat) (p : Int × Int) :
    OwnH ((w.setCell ⟨b, i * 2, none⟩ (.int .i64 p.1)).setCell ⟨b, i * 2 + 1, none⟩ (.int .u8 p.2)) (.slice (some ⟨b, 0, none⟩) (ps.set i p).length cap) (ps.set i p) := by
  have h1 := (World.ownsRow.stored (World.ownsRow.stored h (i * 2) (.int .i64 p.1)).1 (i * 2 + 1) (.int .u8 p.2)).1
  rw [flat_set] at h1
  unfold OwnH
  rw [List.length_set]
  exact h1
theorem OwnH.free {w : World} {b n cap : Nat} {ps : List (Int × Int)} (h : OwnH w (.slice (some ⟨b, 0, none⟩) n cap) ps) (hn : n = ps.length) (c : Nat) : w.frozen? ⟨b, c, none⟩ = false := by
  subst hn
  exact World.ownsRow.frozenAt h c
theorem flat_take (ps : List (Int × Int)) (i : Nat) : (ps.flatMap hold2).take (i * 2) = (ps.take i).flatMap hold2 := by
  induction ps generalizing i with
  | nil => simp
  | cons x ps ih =>
    cases i with
    | zero => simp
    | succ i =>
      have e : (i + 1) * 2 = i * 2 + 1 + 1 := by omega
      rw [e]
      simp only [List.flatMap_cons, List.cons_append, List.nil_append, List.take_succ_cons, ih]
theorem OwnH.take {w : World} {b n cap i : Nat} {ps : List (Int × Int)} (h : OwnH w (.slice (some ⟨b, 0, none⟩) n cap) ps) (hn : n = ps.length) (hi : i ≤ ps.length) : OwnH w (.slice (some ⟨b, 0, none⟩) i cap) (ps.take i) := by
  subst hn
  have h1 := own_take h hi
  rw [flat_take] at h1
  have e : (ps.take i).length = i := by rw [List.length_take]; omega
  unfold OwnH
  rw [e]; exact h1
end Go.Proofs.YtokeciekncincabGreat
namespace Go.Proofs.YtokeciekncincabGreat
open Go Go.RowKit Go.Maps

def notOf (who : Int) (l : List (Int × Int)) : List (Int × Int) := l.filter fun p => !decide (p.1 = who)
def ownOf (v : Value) (k : Nat) : Prop := v.ownBlock = some k
theorem Tryz.zeroH (w : World) : (zeroValue 67).run Tryz.prog w = .ok (.agg #[.int .i64 0, .int .u8 0]) w := by kernel_rfl
/-- What is known while holds are moved ahead. -/
structure DelAt (who : Int) (l ps : List (Int × Int)) (i j : Nat) : Prop where
  len : ps.length = l.length
  lt : i < j
  le : j ≤ l.length
  got : ps.take i = notOf who (l.take j)
  left : ps.drop j = l.drop j
theorem DelAt.start {who : Int} {l : List (Int × Int)} {i : Nat} {m : Int} (hi : i < l.length) (h : ∀ p ∈ l.take i, p.1 ≠ who) (hm : l[i]? = some (who, m)) : DelAt who l l i (i + 1) := by
  refine ⟨rfl, by omega, by omega, ?_, rfl⟩
  have hg : l[i] = (who, m) := by
    rw [List.getElem?_eq_getElem hi] at hm
    exact Option.some.inj hm
  rw [List.take_succ_eq_append_getElem hi, hg]
  unfold notOf
  rw [List.filter_append]
  have h1 : (l.take i).filter (fun p => !decide (p.1 = who)) = l.take i := List.filter_eq_self.2 fun p hp => by simp [h p hp]
  rw [h1]
  simp
theorem DelAt.at {who : Int} {l ps : List (Int × Int)} {i j : Nat} (h : DelAt who l ps i j) : ps[j]? = l[j]? := by
  have h1 := congrArg (fun x : List (Int × Int) => x[0]?) h.left
  simpa using h1
theorem DelAt.skip {who : Int} {l ps : List (Int × Int)} {i j : Nat} (h : DelAt who l ps i j) (hj : j < l.length) {p : Int × Int} (hp : l[j]? = some p) (hw : p.1 = who) : DelAt who l ps i (j + 1) := by
  have hg : l[j] = p := by
    rw [List.getElem?_eq_getElem hj] at hp
    exact Option.some.inj hp
  refine ⟨h.len, by have := h.lt; omega, by omega, ?_, ?_⟩
  · rw [h.got, List.take_succ_eq_append_getElem hj, hg]
    unfold notOf
    rw [List.filter_append]
    simp [hw]
  · have := congrArg (List.drop 1) h.left
    simpa [Nat.add_comm] using this
theorem DelAt.keep {who : Int} {l ps : List (Int × Int)} {i j : Nat} (h : DelAt who l ps i j) (hj : j < l.length) {p : Int × Int} (hp : l[j]? = some p) (hw : p.1 ≠ who) : DelAt who l (ps.set i p) (i + 1) (j + 1) := by
  have hg : l[j] = p := by
    rw [List.getElem?_eq_getElem hj] at hp
    exact Option.some.inj hp
  have hlt := h.lt
  have hlen := h.len
  refine ⟨by rw [List.length_set]; exact h.len, by omega, by omega, ?_, ?_⟩
  · rw [List.take_succ_eq_append_getElem (by rw [List.length_set]; omega), List.getElem_set_self, List.take_set_of_le (Nat.le_refl _), h.got, List.take_succ_eq_append_getElem hj, hg]
    unfold notOf
    rw [List.filter_append]
    simp [hw]
  · have := congrArg (List.drop 1) h.left
    rw [List.drop_set_of_lt (by omega)]
    simpa [Nat.add_comm] using this
def DelRet (v : Value) (l : List (Int × Int)) (who : Int) (w : World) (e : Ending) (w' : World) : Prop :=
  ∃ v', e = .returned v' ∧ OwnH w' v' (notOf who l) ∧ (∀ k, v'.ownBlock = some k → v.ownBlock = some k) ∧ Fr w w' (ownOf v)
set_option maxRecDepth 100000 in
set_option maxHeartbeats 4000000 in
theorem delf_any {g wb : Nat} {who : Int} {w : World} {v : Value} {l : List (Int × Int)} (hT : Tells g wb who w (ownOf v)) (hv : OwnH w v l) (hl : l.length ≤ 1000000)
    (hg : ∀ args w, (callFunc g args).run Tryz.prog w = .ok (.enter g args) w) :
    Calls Tryz.prog 90 #[v, .func (.func g) #[] #[.pointer (some ⟨wb, 0, none⟩)]] w (DelRet v l who w) := by
  have cI := idx_any (hT := fun p W hf => hT p W hf.of_nil) (SlAt.of_own hv).1 hl hg
  have HT := Lib.hid hT
  have HV := Lib.hid hv
  obtain ⟨a, cap, rfl⟩ := hv.shape
  clear hT hv
  go_enter Tryz.func90, Tryz.ntmps90
  go_wp2_with fail
  refine cI.mono ?_
  rintro e w1 ⟨r, rfl, hi, hf⟩
  have HF := Lib.hid hf
  clear hf cI
  rcases hi with ⟨rfl, hn⟩ | ⟨i, rfl, hi, hn, m, hm⟩
  · have HN := Lib.hid hn
    clear hn
    go_wp2_with fail
    go_ret
    refine ⟨_, rfl, ?_, fun k hk => hk, HF.out.of_nil⟩
    have : notOf who l = l := List.filter_eq_self.2 fun p hp => by simp [HN.out p hp]
    rw [this]
    exact HV.out.fr HF.out fun _ _ h => h
  · have HD := Lib.hid (DelAt.start hi hn hm)
    obtain ⟨b, cap', hvv, hnc, _⟩ := HV.out.form (by omega)
    simp only [Value.slice.injEq, true_and] at hvv
    obtain ⟨rfl, rfl⟩ := hvv
    have HV1 := Lib.hid (HV.out.fr HF.out fun _ _ h => h)
    have hne : ((i : Int) == -1) = false := by
      rw [beq_eq_false_iff_ne]; omega
    clear hn hm
    go_wp2_with fail
    go_loopw [5, 6] (fun vi vj wr => ∃ (i j : Nat) (ps : List (Int × Int)), vi = .int .i64 (i : Int) ∧ vj = .int .i64 (j : Int) ∧ Hid (DelAt who l ps i j) ∧ Hid (OwnH wr (.slice (some ⟨b, 0, none⟩) ps.length cap) ps) ∧ Hid (Fr w wr (ownOf (.slice (some ⟨b, 0, none⟩) l.length cap)))) (fun _ vj _ => l.length - (intOf vj).toNat)
    case atStart => exact ⟨i, i + 1, l, rfl, by go_num, HD.out, HV1.out, HF.out.of_nil⟩
    case round =>
      clear HV1 HD hi hne
      obtain ⟨i, j, ps, rfl, rfl, HD, HO, HW⟩ := hrel
      obtain ⟨wo, rfl⟩ : ∃ wo : World, wo = wr := ⟨_, rfl⟩
      have hjl := HD.out.le
      have hij := HD.out.lt
      by_cases hlt : j < l.length
      · have hkl : (j : Int) < (l.length : Int) := by omega
        obtain ⟨b', cap'', hvv, _, hcl⟩ := HO.out.form (by rw [HD.out.len]; omega)
        simp only [Value.slice.injEq, Option.some.injEq, Addr.mk.injEq, and_true, true_and] at hvv
        obtain ⟨rfl, rfl⟩ := hvv
        have hgl := List.getElem?_eq_getElem hlt
        have hga := HD.out.at
        generalize l[j] = p at hgl
        rw [hgl] at hga
        obtain ⟨p0, p1⟩ := hcl j p hga
        have hip : i < ps.length := by rw [HD.out.len]; omega
        obtain ⟨z0, z1⟩ := hcl i _ (List.getElem?_eq_getElem hip)
        have hf0 : Fr wo (wo.alloc (.cells #[.int .i64 p.1, .int .u8 p.2] 67)) Nil := (Fr.refl _ Nil).alloc _
        have HGL := Lib.hid hgl
        have cT := HT.out p
        have HF0 := Lib.hid hf0
        have HB := Lib.hid (Bk.new wo 67 #[.int .i64 p.1, .int .u8 p.2])
        have z0' := hf0.cell z0 (fun h => h)
        have z1' := hf0.cell z1 (fun h => h)
        have HOF : Hid (∀ c, wo.frozen? ⟨b, c, none⟩ = false) := fun c => HO.out.free rfl c
        obtain ⟨y1, y2⟩ := ps[i]
        obtain ⟨p1', p2'⟩ := p
        simp only at p0 p1 z0' z1'
        clear hcl hga hgl hf0 z0 z1
        go_wp2_with fail
        refine (cT _ (HW.out.trans0 HF0.out)).mono ?_
        rintro e w3 ⟨rfl, hf3⟩
        have HF3 := Lib.hid (HF0.out.trans0 hf3)
        have hbc := HB.out.fr hf3 (fun h => h)
        have q0 := hbc.cell 0
        have q1 := hbc.cell 1
        have y0 := hf3.cell z0' (fun h => h)
        have y1 := hf3.cell z1' (fun h => h)
        clear hf3 cT hbc z0' z1' p0 p1
        cases hb : (p1' == who) with
        | true =>
          have HB2 := Lib.hid (eq_of_beq hb)
          clear hb
          go_wp2_with fail
          go_roundw
          case rel => exact ⟨i, j + 1, ps, rfl, by go_num, HD.out.skip hlt HGL.out HB2.out, HO.out.fr HF3.out (fun _ _ h => h), HW.out.trans0 HF3.out⟩
          case measure => simp [intOf]; omega
        | false =>
          have HB2 : Hid (p1' ≠ who) := fun e => by rw [e] at hb; simp at hb
          have HO3 := Lib.hid (HO.out.fr HF3.out (fun _ _ h => h))
          have hfz : ∀ c, w3.frozen? ⟨b, c, none⟩ = false := fun c => HO3.out.free rfl c
          have f0 := hfz (i * 2)
          have f1 := hfz (i * 2 + 1)
          have hil : (i : Int) < (l.length : Int) := by omega
          clear hb hfz
          go_wp2_with fail
          go_roundw
          case rel =>
            refine ⟨i + 1, j + 1, ps.set i (p1', p2'), by go_num, by go_num, HD.out.keep hlt HGL.out HB2.out, ?_, ?_⟩
            · exact HO3.out.set i (p1', p2')
            · exact Fr.setCell (p := ⟨b, i * 2 + 1, none⟩) (Fr.setCell (p := ⟨b, i * 2, none⟩) (HW.out.trans0 HF3.out) (fun _ => rfl) _) (fun _ => rfl) _
          case measure => simp [intOf]; omega
      · obtain rfl : j = l.length := by omega
        have hnp := hnc
        have HTK := HO.out.take rfl (show i ≤ ps.length by rw [HD.out.len]; omega)
        have hli : (ps.take i).length = i := by rw [List.length_take, HD.out.len]; omega
        unfold OwnH at HTK
        rw [hli] at HTK
        obtain ⟨w2, hrun, hown2, hgr2⟩ := run_clear_many (P := Tryz.prog) wo 48 0 67 _ 2 (l.length - i) Tryz.underlying48 Tryz.zeroH rfl (zeros_one _ (fun i hi => by
          have : i = 0 ∨ i = 1 := by simp [Value.cells] at hi; omega
          rcases this with rfl | rfl <;> rfl) _) b i cap _ HTK (by omega) (by omega) (cap - i)
        have HO2 := Lib.hid hown2
        have HG2 := Lib.hid hgr2
        have b5 : ¬ cap = i := by omega
        have hil : (i : Int) ≤ (l.length : Int) := by omega
        have HLI := Lib.hid hli
        clear hown2 hgr2 HTK hli
        go_wp2_with fail
        go_ret
        refine ⟨_, rfl, ?_, fun k hk => hk, HW.out.grown HG2.out fun k hk _ => ?_⟩
        · have h1 := HO2.out
          have h2 := HD.out.got
          rw [List.take_length] at h2
          rw [h2] at h1
          have h3 := HLI.out
          rw [h2] at h3
          unfold OwnH
          rw [h3]
          exact h1
        · cases hk; rfl
/-- A queue without one. -/
theorem enters_without : ∀ args w, (callFunc 91 args).run Tryz.prog w = .ok (.enter 91 args) w := Go.Proofs.enters_of Tryz.func91 (by kernel_rfl) rfl
set_option maxHeartbeats 1000000 in
theorem without_any {who : Int} {w : World} {v : Value} {l : List (Int × Int)} (hv : OwnH w v l) (hl : l.length ≤ 1000000) :
    Calls Tryz.prog 75 #[v, .int .i64 who] w (DelRet v l who w) := by
  obtain ⟨wx, hwx⟩ : ∃ wx, w.alloc (.cells #[.int .i64 who] 2) = wx := ⟨_, rfl⟩
  have hf : Fr w wx Nil := by rw [← hwx]; exact (Fr.refl w Nil).alloc _
  have hb : Bk wx w.heap.size 2 [.int .i64 who] := by rw [← hwx]; exact Bk.new w _ _
  have hv2 := hv.fr hf (fun _ _ h => h)
  have cD := delf_any (who := who) (wb := w.heap.size) (tells_without (hb.cell 0) (fun e => by have := hv.lt e; omega)) hv2 hl enters_without
  have HF := Lib.hid hf
  obtain ⟨a, cap, rfl⟩ := hv.shape
  clear hv hv2 hf hb
  go_enter Tryz.func75, Tryz.ntmps75
  go_wp2_with fail
  refine cD.mono ?_
  rintro e w1 ⟨v', rfl, h1, h2, h3⟩
  obtain ⟨a', cap', rfl⟩ := h1.shape
  have H1 := Lib.hid h1
  have H2 := Lib.hid h2
  have H3 := Lib.hid h3
  clear h1 h2 h3 cD
  go_wp2_with fail
  go_ret
  exact ⟨_, rfl, H1.out, H2.out, HF.out.of_nil.trans H3.out fun _ _ h => h⟩
end Go.Proofs.YtokeciekncincabGreat
namespace Go.Proofs.YtokeciekncincabGreat
open Go Go.RowKit Go.Maps

/-- A new row of the call's own. -/
def NewH (l : List (Int × Int)) (w : World) (e : Ending) (w' : World) : Prop :=
  ∃ v, e = .returned v ∧ OwnH w' v l ∧ (∀ k, v.ownBlock = some k → w.heap.size ≤ k) ∧ Fr w w' Nil
set_option maxRecDepth 100000 in
set_option maxHeartbeats 2000000 in
theorem grow_any (n : Nat) (hn : n ≤ 1000000) (w : World) : Calls Tryz.prog 92 #[.slice none 0 0, .int .i64 (n : Int)] w (NewH [] w) := by
  by_cases h0 : n = 0
  · subst h0
    go_enter Tryz.func92, Tryz.ntmps92
    go_wp2_with fail
    go_ret
    exact ⟨_, rfl, OwnH.nil _, (fun k hk => by cases hk), Fr.refl _ _⟩
  · obtain ⟨i, z, hu, hi, hz, hsz, hby, hzs, hs0, hbb⟩ := holdT
    have hrun := Go.Lib.run_append_nil_zeros (P := Tryz.prog) w 48 3 48 67 i z .i64 .i64 hu Tryz.underlying3 hi hz n (by omega) (by omega) (by omega) (by rw [hby]; omega)
    have hge := grownCap_ge w n 0 67
    have hlm := grownCap_le_maxLen w n 0 67 (by unfold maxLen; omega)
    have hbk := Bk.new w.drew 67 (Builtin.zeroCells z.cells n ++ Builtin.zeroCells z.cells (grownCap w n 0 67 - n))
    have hlen : (Builtin.zeroCells z.cells n ++ Builtin.zeroCells z.cells (grownCap w n 0 67 - n)).toList.length = grownCap w n 0 67 * 2 := by
      rw [Array.length_toList, Array.size_append, size_zeroCells, size_zeroCells, hzs, ← Nat.add_mul]
      congr 1; omega
    have HF := Lib.hid (((Fr.refl w Nil).drew).alloc (.cells (Builtin.zeroCells z.cells n ++ Builtin.zeroCells z.cells (grownCap w n 0 67 - n)) 67))
    have HO : Hid (OwnH (w.drew.alloc (.cells (Builtin.zeroCells z.cells n ++ Builtin.zeroCells z.cells (grownCap w n 0 67 - n)) 67)) (.slice (some ⟨w.heap.size, 0, none⟩) 0 (grownCap w n 0 67)) []) := by
      show World.ownsRow _ _ _ _ _ _ _
      refine ⟨rfl, .inr ⟨w.heap.size, _, _, rfl, Nat.zero_le _, hbk, Nat.zero_le _, hlm, by simpa using hlen, by simp⟩⟩
    generalize grownCap w n 0 67 = nc at *
    generalize w.drew.alloc (.cells (Builtin.zeroCells z.cells n ++ Builtin.zeroCells z.cells (nc - n)) 67) = w1 at *
    have hn1 : (0 : Int) < (n : Int) := by omega
    have hn2 : ¬ ((n : Int) < 0) := by omega
    clear hbk hlen hi hz hzs hs0 hbb hu hsz hby
    go_enter Tryz.func92, Tryz.ntmps92
    go_wp2_with (at_builtin; refine Go.Lib.wpList_append_run _ rfl _ _ _ _ rfl _ _ rfl rfl _ _ hrun ?_)
    go_ret
    exact ⟨_, rfl, HO.out, (fun k hk => by cases hk; exact Nat.le_refl _), HF.out⟩
set_option maxRecDepth 100000 in
set_option maxHeartbeats 4000000 in
theorem concat_any {uv rv : Value} {U R : List (Int × Int)} (j : Nat) (w : World) (hu : OwnH w uv U) (hr : OwnH w rv R) (q0 : w.cell? ⟨j, 0, none⟩ = some uv) (q1 : w.cell? ⟨j, 1, none⟩ = some rv) (hl : U.length + R.length ≤ 1000000) :
    Calls Tryz.prog 76 #[.slice (some ⟨j, 0, none⟩) 2 2] w (NewH (U ++ R) w) := by
  have HU := Lib.hid hu
  have HR := Lib.hid hr
  obtain ⟨ua, uc, rfl⟩ := hu.shape
  obtain ⟨ra, rc, rfl⟩ := hr.shape
  have cG := grow_any (U.length + R.length) hl w
  rw [Int.natCast_add] at cG
  have hlu : (U.length : Int) ≤ 1000000 := by omega
  have hlr : (R.length : Int) ≤ 1000000 := by omega
  have HL := Lib.hid hl
  have HQ0 := Lib.hid q0
  have HQ1 := Lib.hid q1
  clear hu hr hl
  go_enter Tryz.func76, Tryz.ntmps76
  go_wp2_with fail
  go_loopw [3, 11] (fun vs vi wr => wr = w ∧ ((vi = .int .i64 0 ∧ vs = .int .i64 0) ∨ (vi = .int .i64 1 ∧ vs = .int .i64 (U.length : Int)) ∨ (vi = .int .i64 2 ∧ vs = .int .i64 ((U.length : Int) + (R.length : Int))))) (fun vs vi _ => 2 - (intOf vi).toNat)
  case atStart => exact ⟨rfl, .inl ⟨rfl, rfl⟩⟩
  case round =>
    obtain ⟨rfl, hrel⟩ := hrel
    rcases hrel with ⟨rfl, rfl⟩ | ⟨rfl, rfl⟩ | ⟨rfl, rfl⟩
    · have hn : ¬ ((U.length : Int) < 0) := by omega
      go_wp2_with fail
      go_roundw
      case rel => exact ⟨by first | rfl | trivial, .inr (.inl ⟨rfl, by go_num⟩)⟩
      case measure => simp [intOf]
    · have hn : ¬ ((U.length : Int) + (R.length : Int) < 0) := by omega
      go_wp2_with fail
      go_roundw
      case rel => exact ⟨by first | rfl | trivial, .inr (.inr ⟨rfl, by go_num⟩)⟩
      case measure => simp [intOf]
    · clear q0 q1
      go_wp2_with fail
      refine cG.mono ?_
      rintro e w1 ⟨v1, rfl, h1, h2, h3⟩
      obtain ⟨a1, c1, rfl⟩ := h1.shape
      have H1 := Lib.hid h1
      have H2 := Lib.hid h2
      have H3 := Lib.hid h3
      have HN : Hid (∀ k, (Value.slice ua U.length uc).ownBlock = some k → k < wr.heap.size) := fun k hk => HU.out.lt hk
      have HN2 : Hid (∀ k, (Value.slice ra R.length rc).ownBlock = some k → k < wr.heap.size) := fun k hk => HR.out.lt hk
      clear h1 h2 h3 cG
      obtain ⟨w, rfl⟩ : ∃ w, w = wr := ⟨_, rfl⟩
      go_wp2_with fail
      go_loopw [6, 27] (fun vs vi wr => Hid (Fr w wr Nil) ∧ ∃ (a : Option Addr) (n c : Nat) (l : List (Int × Int)), vs = .slice a n c ∧ Hid (l.length = n) ∧ Hid (OwnH wr (.slice a n c) l) ∧ Hid (∀ k, (Value.slice a n c).ownBlock = some k → w.heap.size ≤ k) ∧ ((vi = .int .i64 0 ∧ l = []) ∨ (vi = .int .i64 1 ∧ l = U) ∨ (vi = .int .i64 2 ∧ l = U ++ R))) (fun _ vi _ => 2 - (intOf vi).toNat)
      case atStart => exact ⟨H3.out, _, _, _, [], rfl, rfl, H1.out, H2.out, .inl ⟨rfl, rfl⟩⟩
      case round =>
        clear H1 H2 H3
        obtain ⟨HF, a, n, c, l, rfl, HLn, HO, HV, hrel⟩ := hrel
        have HU2 := Lib.hid (HU.out.fr HF.out fun _ _ h => h)
        have HR2 := Lib.hid (HR.out.fr HF.out fun _ _ h => h)
        obtain ⟨wo, rfl⟩ : ∃ wo : World, wo = wr := ⟨_, rfl⟩
        rcases hrel with ⟨rfl, rfl⟩ | ⟨rfl, rfl⟩ | ⟨rfl, rfl⟩
        · have q0 := HF.out.cell HQ0.out (fun h => h)
          have hn0 : n = 0 := HLn.out.symm
          subst hn0
          go_wp2_with (at_builtin; refine wpList_app _ rfl _ _ 48 rfl holdT (.slice a 0 c) rfl (n := 0) (xs := []) HO.out _ rfl (SlAt.of_own HU2.out).1 (hold2_one _) (by have := HL.out; omega) ?_)
          intro g cap w2 ho hg hb
          have HO2 : Hid (OwnH w2 (.slice g U.length cap) U) := ho
          have HG := Lib.hid hg
          have HB := Lib.hid hb
          clear ho hg hb
          go_wp2_with fail
          go_roundw
          case rel =>
            refine ⟨HF.out.grown HG.out fun k hk hlt => ?_, _, _, _, U, rfl, rfl, HO2.out, fun k hk => ?_, .inr (.inl ⟨rfl, rfl⟩)⟩
            · have := HV.out k hk; omega
            · rcases HB.out with h | h
              · exact HV.out k (h.symm.trans hk)
              · rw [h] at hk; cases hk; exact HF.out.size
          case measure => simp [intOf]
        · have q0 := HF.out.cell HQ1.out (fun h => h)
          have hn0 : n = l.length := HLn.out.symm
          subst hn0
          go_wp2_with (at_builtin; refine wpList_app _ rfl _ _ 48 rfl holdT (.slice a l.length c) rfl HO.out _ rfl (SlAt.of_own HR2.out).1 (hold2_one _) (by have := HL.out; omega) ?_)
          intro g cap w2 ho hg hb
          have HO2 : Hid (OwnH w2 (.slice g (l.length + R.length) cap) (l ++ R)) := by
            have e : (l ++ R).flatMap hold2 = l.flatMap hold2 ++ R.flatMap hold2 := List.flatMap_append
            show World.ownsRow _ _ _ _ _ _ _
            rw [e, List.length_append]
            exact ho
          have HG := Lib.hid hg
          have HB := Lib.hid hb
          clear ho hg hb
          go_wp2_with fail
          go_roundw
          case rel =>
            refine ⟨HF.out.grown HG.out fun k hk hlt => ?_, _, _, _, l ++ R, rfl, List.length_append, HO2.out, fun k hk => ?_, .inr (.inr ⟨rfl, rfl⟩)⟩
            · have := HV.out k hk; omega
            · rcases HB.out with h | h
              · exact HV.out k (h.symm.trans hk)
              · rw [h] at hk; cases hk; exact HF.out.size
          case measure => simp [intOf]
        · go_wp2_with fail
          go_ret
          exact ⟨_, rfl, HO.out, HV.out, HF.out⟩
/-! ### a spot's queue -/
abbrev xptr (b : Nat) : Value := .pointer (some ⟨b, 0, none⟩)
set_option maxRecDepth 100000 in
set_option maxHeartbeats 2000000 in
theorem queue_any {g : GX} {Hs U R : List (Int × Int)} {w : World} (h : XAt w g Hs U R) (hl : U.length + R.length ≤ 1000000) :
    Calls Tryz.prog 47 #[xptr g.xb] w (NewH (U ++ R) w) := by
  have k1 : ∀ w', KeptN w w' → w'.cell? ⟨g.xb, 1, none⟩ = some g.uv := KeptN.cell (h.box.cell 1)
  have k2 : ∀ w', KeptN w w' → w'.cell? ⟨g.xb, 2, none⟩ = some g.rv := KeptN.cell (h.box.cell 2)
  obtain ⟨ua, uc, hu⟩ := h.up.shape
  obtain ⟨ra, rc, hr⟩ := h.rest.shape
  have HU := h.up
  have HR := h.rest
  rw [hu] at k1 HU
  rw [hr] at k2 HR
  have HL := Lib.hid hl
  have HUU := Lib.hid HU
  have HRR := Lib.hid HR
  generalize g.xb = xb at *
  clear hu hr h HU HR hl
  go_enter Tryz.func47, Tryz.ntmps47
  go_wp2_with fail
  refine wp_region_sink 10 (KeptN w) (by kernel_rfl) ?_
  have hSa : KeptN w w.drew := KeptN.start w
  refine tk 0 hSa ?_
  refine tk 1 hSa ?_
  refine tk 2 hSa ?_
  try simp only [Act.put, sA, sB, sC]
  refine tk 3 hSa ?_ (hy := by intro _ w; have ck1 := k1 _ w; go_simp <;> with_reducible rfl)
  try simp only [Act.put, sA, sB, sC]
  refine tk 4 hSa ?_
  refine tk 5 hSa ?_
  refine tk 6 hSa ?_
  try simp only [Act.put, sA, sB, sC]
  refine tk 7 hSa ?_ (hy := by intro _ w; have ck2 := k2 _ w; go_simp <;> with_reducible rfl)
  try simp only [Act.put, sA, sB, sC]
  refine on1 8 fun K hK => ?_
  go_simp
  have hnb := Bk.new w.drew 48 #[.slice ua U.length uc, .slice ra R.length rc]
  have hSb := hSa.next ((Fr.refl _ Nil).alloc (.cells #[.slice ua U.length uc, .slice ra R.length rc] 48))
  refine hK.out _ _ hSb ?_
  clear hK K
  try simp only [Act.put, sA, sB, sC]
  refine on1 9 fun K hK => ?_
  go_simp
  refine (concat_any _ _ (HUU.out.fr hSb.fr fun _ _ h => h) (HRR.out.fr hSb.fr fun _ _ h => h) (hnb.cell 0) (hnb.cell 1) HL.out).mono ?_
  rintro e w1 ⟨v1, rfl, h1, h2, h3⟩
  have hSc := hSb.next h3
  refine hK.out _ _ hSc ?_
  clear hK K
  have H1 := Lib.hid h1
  have H2 := Lib.hid h2
  have HS := Lib.hid hSb.fr
  have HSC := Lib.hid hSc.fr
  clear h1 h2 h3
  try simp only [Act.put, sA, sB, sC]
  refine wpAnyS_last (i := 10) rfl (by kernel_rfl) (by decide) (by kernel_rfl) (by rfl) fun K hK => ?_
  go_simp
  refine hK.out _ _ ?_
  clear hK K hSa hSb hSc hnb k1 k2
  obtain ⟨a1, c1, rfl⟩ := H1.out.shape
  go_wp2_with fail
  go_ret
  exact ⟨_, rfl, H1.out, fun k hk => by have := H2.out k hk; have := HS.out.size; omega, HSC.out⟩
end Go.Proofs.YtokeciekncincabGreat
namespace Go.Proofs.YtokeciekncincabGreat
open Go Go.RowKit Go.Maps

theorem Tryz.invI64 : ∀ v kl, keyOf Tryz.prog 2 v = some kl → ∃ x : Int, v = Value.int .i64 x ∧ kl = ikey x := fun v kl h => by
  obtain ⟨x, rfl, rfl, _⟩ := keyOf_int_inv Tryz.underlying2 h
  exact ⟨x, rfl, rfl⟩
/-- As the program has it. -/
def canP (Hs : List (Int × Int)) (who m : Int) : Bool := Hs.all fun p => p.1 == who || besM m p.2
def CanRet (Hs : List (Int × Int)) (who m : Int) (w : World) (e : Ending) (w' : World) : Prop := e = .returned (.bool (canP Hs who m)) ∧ Fr w w' Nil
theorem canP_false {Hs : List (Int × Int)} {who m : Int} {p : Int × Int} (h : p ∈ Hs) (h1 : p.1 ≠ who) (h2 : besM m p.2 = false) : canP Hs who m = false := by
  unfold canP
  rw [List.all_eq_false]
  exact ⟨p, h, by simp [h1, h2]⟩
set_option maxRecDepth 100000 in
set_option maxHeartbeats 4000000 in
theorem can_any {g : GX} {Hs U R : List (Int × Int)} {w : World} {who m : Int} (h : XAt w g Hs U R) (hm : ModeOk m) (hM : ∀ p ∈ Hs, ModeOk p.2) :
    Calls Tryz.prog 44 #[xptr g.xb, .agg #[.int .i64 who, .int .u8 m]] w (CanRet Hs who m w) := by
  obtain ⟨wx, hwx⟩ : ∃ wx, w.alloc (.cells #[.int .i64 who, .int .u8 m] 67) = wx := ⟨_, rfl⟩
  have hf : Fr w wx Nil := by rw [← hwx]; exact (Fr.refl w Nil).alloc _
  have hb : Bk wx w.heap.size 67 [.int .i64 who, .int .u8 m] := by rw [← hwx]; exact Bk.new w _ _
  have hx := h.fr0 hf
  have hmap := hx.holds
  have hsz : wx.heap.size = w.heap.size + 1 := by rw [← hwx]; simp
  have q0 : wx.cell? ⟨g.xb, 0, none⟩ = some (.map (some g.hb)) := hx.box.cell 0
  have HF := Lib.hid hf
  have HB := Lib.hid hb
  have HM := Lib.hid hM
  have HMAP := Lib.hid hmap
  have HMM := Lib.hid hm
  have HSZ := Lib.hid hsz
  generalize g.xb = xb at *
  generalize g.hb = hb' at *
  clear hf hb hx hmap h hM hm hsz
  go_enter Tryz.func44, Tryz.ntmps44
  go_wp2_with (at_range; refine wpList_map_range _ rfl _ 72 rfl 2 31 Tryz.keyI64 Tryz.underlying72 intKey hb' Hs rfl HMAP.out ?_; intro w0 hr0 hf0 hs0)
  have Hr0 := Lib.hid hr0
  have Hf0 : Hid (Fr wx w0 Nil) := hf0
  clear hr0 hf0 hs0
  go_frame
  generalize hrb : wx.heap.size = rb at *
  have HRB := Lib.hid hrb
  clear hrb
  generalize w.heap.size = N at *
  go_loopw [] (fun wr => ∃ L, Hid (RangeAt Tryz.prog 2 ikey modV wr hb' rb Hs L) ∧ Hid (Fr wx wr Nil) ∧ Hid (canP Hs who m = canP L who m)) (fun wr => wr.rangeLeft hb' rb)
  case atStart => exact ⟨Hs, Hr0.out, Hf0.out, rfl⟩
  case round =>
    clear Hr0 Hf0
    obtain ⟨L, Hr, Hf, HC⟩ := hrel
    go_wp2_with (at_next; refine wpList_map_next _ rfl _ rfl 2 Tryz.keyI64 intKey (Value.int .i64) Tryz.invI64 hb' rb Hs L rfl Hr.out ?_ ?_)
    · intro hL
      have HL := Lib.hid hL
      clear hL
      go_wp2_with fail
      go_ret
      refine ⟨?_, HF.out.trans0 Hf.out⟩
      rw [HC.out, HL.out]
      rfl
    · intro x c A B w1 hL hr1 hf1 hs1 hlt hen
      have Hr1 := Lib.hid hr1
      have Hf1 : Hid (Fr wx w1 Nil) := Hf.out.trans hf1 fun j hj hj2 => by have := HRB.out; omega
      have HL := Lib.hid hL
      have Hlt := Lib.hid hlt
      have hbc := HB.out.fr Hf1.out (fun h => h)
      have p0 : w1.cell? ⟨N, 0, none⟩ = some (.int .i64 who) := hbc.cell 0
      have p1 : w1.cell? ⟨N, 1, none⟩ = some (.int .u8 m) := hbc.cell 1
      have HIN : Hid ((x, c) ∈ Hs) := Hr.out.sub _ (by rw [HL.out]; exact List.mem_append.2 (.inr List.mem_cons_self))
      have HCC : Hid (canP L who m = (canP (A ++ B) who m && (x == who || besM m c))) := by
        rw [HL.out]
        show List.all _ _ = (List.all _ _ && _)
        rw [List.all_append, List.all_append, List.all_cons]
        show (_ && ((x == who || besM m c) && _)) = _
        generalize (x == who || besM m c) = y
        generalize A.all _ = ya
        generalize B.all _ = yb
        cases y <;> cases ya <;> cases yb <;> rfl
      clear hL hr1 hf1 hlt hbc q0
      cases hxw : (x == who) with
      | true =>
        have hxn : (x != who) = false := by simp [bne, hxw]
        have HX := Lib.hid hxw
        clear hxw
        go_wp2_with fail
        go_roundw
        case rel => exact ⟨A ++ B, Hr1.out, Hf1.out, HC.out.trans (HCC.out.trans (by rw [HX.out]; simp))⟩
        case measure => exact Hlt.out
      | false =>
        have hxn : (x != who) = true := by simp [bne, hxw]
        have HX := Lib.hid hxw
        clear hxw
        go_wp2_with fail
        refine (bes_any HMM.out (HM.out _ HIN.out) _).mono ?_
        rintro e w2 ⟨rfl, rfl⟩
        cases hbb : besM m c with
        | true =>
          have HBB := Lib.hid hbb
          clear hbb
          go_wp2_with fail
          go_roundw
          case rel => exact ⟨A ++ B, Hr1.out, Hf1.out, HC.out.trans (HCC.out.trans (by rw [HX.out, HBB.out]; simp))⟩
          case measure => exact Hlt.out
        | false =>
          have HBB := Lib.hid hbb
          clear hbb
          go_wp2_with fail
          go_ret
          refine ⟨?_, HF.out.trans0 Hf1.out⟩
          rw [canP_false HIN.out (by have := HX.out; simpa using this) HBB.out]
          rfl
end Go.Proofs.YtokeciekncincabGreat
namespace Go.Proofs.YtokeciekncincabGreat
open Go Go.RowKit Go.Maps

/-- Behind these grants D is as D1. -/
def Goes (s : Spot) (D : LkS) (pre : List Int) (D1 : LkS) : Prop := ∀ t, regrantL (pre.length + t) D s = (pre ++ (regrantL t D1 s).1, (regrantL t D1 s).2)
theorem Goes.nil (s : Spot) (D : LkS) : Goes s D [] D := fun t => by
  show regrantL (0 + t) D s = _
  rw [Nat.zero_add, List.nil_append]
theorem Goes.snoc {s : Spot} {D D1 : LkS} {pre : List Int} {e : LkE} {l : List LkE} (h : Goes s D pre D1) (hq : queueL D1.H D1.W s = e :: l) (hc : canL D1.H e.who s e.m = true) : Goes s D (pre ++ [e.who]) (grantL D1 e s) := fun t => by
  have h1 := h (t + 1)
  rw [List.length_append, List.length_singleton, Nat.add_assoc, Nat.add_comm 1 t, h1]
  have h2 : regrantL (t + 1) D1 s = (e.who :: (regrantL t (grantL D1 e s) s).1, (regrantL t (grantL D1 e s) s).2) := by
    rw [regrantL, hq]
    dsimp only
    rw [if_pos hc]
  rw [h2, List.append_assoc]
  rfl
theorem Goes.done {s : Spot} {D D1 : LkS} {pre : List Int} (h : Goes s D pre D1) (hq : queueL D1.H D1.W s = [] ∨ ∃ e l, queueL D1.H D1.W s = e :: l ∧ canL D1.H e.who s e.m = false) : regrantL D.W.length D s = (pre, D1) := by
  have h0 : ∀ t, regrantL t D1 s = ([], D1) := fun t => by
    cases t with
    | zero => rfl
    | succ t =>
      rw [regrantL]
      rcases hq with hq | ⟨e, l, hq, hc⟩
      · rw [hq]
      · rw [hq]
        dsimp only
        rw [hc]
        rfl
  have h1 := h D.W.length
  rw [h0, List.append_nil, Nat.add_comm, regrantL_enough] at h1
  exact h1
/-- A table that is well formed, of at most N entries. -/
structure DOk (N : Nat) (D : LkS) : Prop where
  inv : LInv D
  few : D.H.length + D.W.length ≤ N
  wf : AllE (fun who s => (Lit.int .i64 who).wf = true ∧ SWf s) D
theorem dropA_len {W : List LkE} {e : LkE} (he : e ∈ W) : (dropA W e.who).length < W.length := by
  unfold dropA
  refine Nat.lt_of_le_of_ne (List.length_filter_le _ _) fun h => ?_
  rw [List.length_filter_eq_length_iff] at h
  have := h e he
  simp at this
theorem putH_le (H : List LkE) (who m : Int) (s : Spot) : (putH H who s m).length ≤ H.length + 1 := by
  unfold putH dropS
  rw [List.length_append, List.length_singleton]
  exact Nat.add_le_add_right (List.length_filter_le _ _) 1
theorem DOk.grant {N : Nat} {D : LkS} (h : DOk N D) {s : Spot} {e : LkE} {l : List LkE} (hq : queueL D.H D.W s = e :: l) : DOk N (grantL D e s) := by
  obtain ⟨he, rfl⟩ := queueL_mem (H := D.H) (W := D.W) (s := s) (e := e) (by rw [hq]; exact List.mem_cons_self)
  refine ⟨grantL_inv h.inv he _, ?_, all_grant h.wf he⟩
  have h1 := putH_le D.H e.who e.m e.s
  have h2 := dropA_len he
  have h3 := h.few
  show (putH D.H e.who e.s e.m).length + (dropA D.W e.who).length ≤ N
  omega
/-- Who waits, and for what. -/
def pairsW (W : List LkE) : List (Int × Spot) := W.map fun e => (e.who, e.s)
theorem pairsW_drop (W : List LkE) (who : Int) : pairsW (dropA W who) = (pairsW W).filter fun p => !decide (p.1 = who) := by
  unfold pairsW dropA
  rw [List.filter_map]
  refine congrArg _ (List.filter_congr fun e _ => ?_)
  show (e.who != who) = !decide (e.who = who)
  by_cases h : e.who = who <;> simp [h]
/-- A table of locks as D says, but for who waits. -/
def LkV (w : World) (lb sb wb : Nat) (D : LkS) (V : List (Int × Spot)) (G : List (Spot × GX)) (S : Nat → Prop) : Prop :=
  LkG w lb sb wb D.most (holdsOf D.H) (fun s => prs (upL D.H D.W s)) (fun s => prs (restL D.H D.W s)) V G S
theorem prs_queue (H W : List LkE) (s : Spot) : prs (queueL H W s) = prs (upL H W s) ++ prs (restL H W s) := by
  unfold prs queueL
  rw [List.map_append]
theorem prs_notOf (l : List LkE) (who : Int) : prs (l.filter fun e => e.who != who) = notOf who (prs l) := prs_filter l who
theorem can_is (H : List LkE) (who : Int) (s : Spot) (m : Int) : canP (holdsOf H s) who m = canL H who s m := (canL_holds H who s m).symm
theorem holds_modes {D : LkS} (h : LInv D) (s : Spot) : ∀ p ∈ holdsOf D.H s, ModeOk p.2 := fun p hp => by
  obtain ⟨e, he, rfl⟩ := List.mem_map.1 hp
  exact (h.hm e (List.mem_filter.1 he).1).1
theorem prs_len (l : List LkE) : (prs l).length = l.length := List.length_map _
theorem queue_few {N : Nat} {D : LkS} (h : DOk N D) (s : Spot) : (prs (upL D.H D.W s)).length + (prs (restL D.H D.W s)).length ≤ N := by
  have h1 := queueL_le D.H D.W s
  unfold queueL at h1
  rw [List.length_append] at h1
  rw [prs_len, prs_len]
  have := h.few
  omega
theorem holds_few {N : Nat} {D : LkS} (h : DOk N D) (s : Spot) : (holdsOf D.H s).length ≤ N := by
  have h1 : (holdsOf D.H s).length ≤ D.H.length := by
    unfold holdsOf
    rw [prs_len]
    exact List.length_filter_le _ _
  have := h.few
  omega
section
variable {w w' : World} {lb sb wb : Nat} {D : LkS} {V : List (Int × Spot)} {G : List (Spot × GX)} {S : Nat → Prop}
/-- The table behind a grant at s; who waits is not yet told. -/
theorem LkV.grant {s : Spot} {g : GX} {e : LkE} {uv rv : Value} (h : LkV w lb sb wb D V G S) (hD : LInv D) (he : e ∈ D.W) (hes : e.s = s) (hg : (s, g) ∈ G) (hbox : Bk w' g.xb 74 [.map (some g.hb), uv, rv])
    (hm : MapAt Tryz.prog 2 ikey modV w' g.hb (((holdsOf D.H s).filter fun p => !decide (p.1 = e.who)) ++ [(e.who, e.m)])) (hu : OwnH w' uv (notOf e.who (prs (upL D.H D.W s)))) (hr : OwnH w' rv (notOf e.who (prs (restL D.H D.W s))))
    (hu2 : ∀ k, uv.ownBlock = some k → g.uv.ownBlock = some k) (hr2 : ∀ k, rv.ownBlock = some k → g.rv.ownBlock = some k) (hf : Fr w w' g.own) :
    ∃ G' g', LkV w' lb sb wb (grantL D e s) V G' S ∧ (s, g') ∈ G' ∧ g'.xb = g.xb := by
  have hx := h.at_ _ hg
  have hown : ∀ k, (⟨g.xb, g.hb, uv, rv⟩ : GX).own k → g.own k := by
    rintro k (rfl | rfl | hk | hk)
    · exact .inl rfl
    · exact .inr (.inl rfl)
    · exact .inr (.inr (.inl (hu2 k hk)))
    · exact .inr (.inr (.inr (hr2 k hk)))
  have hx' : XAt w' ⟨g.xb, g.hb, uv, rv⟩ (holdsOf (grantL D e s).H s) (prs (upL (grantL D e s).H (grantL D e s).W s)) (prs (restL (grantL D e s).H (grantL D e s).W s)) := by
    refine ⟨hbox, ?_, ?_, ?_, fun k hk hk2 => hx.far k (hu2 k hk) (hr2 k hk2)⟩
    · show MapAt _ _ _ _ _ _ (holdsOf (putH D.H e.who s e.m) s)
      rw [holdsOf_putH]; exact hm
    · show OwnH w' uv (prs (upL (putH D.H e.who s e.m) (dropA D.W e.who) s))
      rw [upL_grant, prs_notOf]; exact hu
    · show OwnH w' rv (prs (restL (putH D.H e.who s e.m) (dropA D.W e.who) s))
      rw [restL_grant, prs_notOf]; exact hr
  have h1 := LkG.turn (h' := holdsOf (grantL D e s).H) (u' := fun s' => prs (upL (grantL D e s).H (grantL D e s).W s')) (r' := fun s' => prs (restL (grantL D e s).H (grantL D e s).W s')) h hg (g' := ⟨g.xb, g.hb, uv, rv⟩) rfl hx' hf (fun k hk => .inl (hown k hk)) (fun s' hs' => by
    have hne : e.s ≠ s' := by rw [hes]; exact fun h => hs' h.symm
    refine ⟨holdsOf_putH_ne _ _ _ hs', ?_, ?_⟩
    · show prs (upL (putH D.H e.who s e.m) (dropA D.W e.who) s') = _
      rw [upL_grant, filter_other hD he hne fun x hx => queueL_of D.H D.W s' x (List.mem_append.2 (.inl hx))]
    · show prs (restL (putH D.H e.who s e.m) (dropA D.W e.who) s') = _
      rw [restL_grant, filter_other hD he hne fun x hx => queueL_of D.H D.W s' x (List.mem_append.2 (.inr hx))])
  have h2 := h1.more (T := S) (fun k hk => hk.elim id fun hk => h.inX _ hg k (hown k hk)) fun k hk => Nat.lt_of_lt_of_le (h.lt k hk) hf.size
  exact ⟨_, _, h2, List.mem_map.2 ⟨(s, g), hg, if_pos rfl⟩, rfl⟩
theorem LkV.fr {T : Nat → Prop} (h : LkV w lb sb wb D V G S) (hf : Fr w w' T) (hd : ∀ k, S k → ¬ T k) : LkV w' lb sb wb D V G S := LkG.fr h hf hd
theorem LkV.fr0 (h : LkV w lb sb wb D V G S) (hf : Fr w w' Nil) : LkV w' lb sb wb D V G S := LkG.fr0 h hf
end
end Go.Proofs.YtokeciekncincabGreat
namespace Go.Proofs.YtokeciekncincabGreat
open Go Go.RowKit Go.Maps

abbrev sp3 (s : Spot) : List Value := [.int .i64 s.1, .bool s.2.1, .int .i64 s.2.2]
theorem Tryz.zeroSpot (w : World) : (zeroValue 30).run Tryz.prog w = .ok (spV (0, false, 0)) w := by kernel_rfl
theorem Tryz.zeroXp (w : World) : (zeroValue 71).run Tryz.prog w = .ok (.pointer none) w := by kernel_rfl
theorem Tryz.zeroMode (w : World) : (zeroValue 31).run Tryz.prog w = .ok (modV 0) w := by kernel_rfl
def LookAt (w : World) (sb : Nat) (s : Spot) (v : Value) : Prop := (Instr.lookup 56 (.map (some sb)) (spV s) false).run Tryz.prog w = .ok v w
set_option maxRecDepth 100000 in
/-- 'l.spots[s]': there, or nil. -/
theorem look_spot {w : World} {sb : Nat} {G : List (Spot × GX)} (h : MapAt Tryz.prog 30 skey GX.ptr w sb G) {s : Spot} (hs : SWf s) :
    (∃ g, (s, g) ∈ G ∧ LookAt w sb s g.ptr) ∨ ((∀ p ∈ G, p.1 ≠ s) ∧ LookAt w sb s (.pointer none)) := by
  obtain ⟨D, h1, h2⟩ := h
  obtain ⟨v, ps, hrun, hv⟩ := h1.lookup Tryz.keySpot Tryz.underlying56 (Tryz.zeroXp w) (zd := .held (.pointer none)) (zp := []) rfl (keySpot hs)
  have hv2 := heldR_inv hv
  by_cases hc : s ∈ G.map Prod.fst
  · obtain ⟨p, hp, rfl⟩ := List.mem_map.1 hc
    rw [h2.at spotKey (x := p.1) (v := p.2) hp] at hv2
    injection hv2 with hv2
    exact .inl ⟨p.2, hp, by unfold LookAt; rw [hrun, ← hv2]⟩
  · have hcf : @List.contains Spot instBEqOfDecidableEq (G.map Prod.fst) s = false := by
      cases hh : @List.contains Spot instBEqOfDecidableEq (G.map Prod.fst) s with
      | false => rfl
      | true =>
        simp only [List.contains_eq_mem, decide_eq_true_eq] at hh
        exact absurd hh hc
    rw [h2.at_none spotKey hcf] at hv2
    injection hv2 with hv2
    exact .inr ⟨fun p hp e => hc (List.mem_map.2 ⟨p, hp, e⟩), by unfold LookAt; rw [hrun, ← hv2]⟩
/-- .. where it is known to be there. -/
theorem look_spot_in {w : World} {sb : Nat} {G : List (Spot × GX)} (h : MapAt Tryz.prog 30 skey GX.ptr w sb G) {s : Spot} (hs : SWf s) {g : GX} (hg : (s, g) ∈ G) : LookAt w sb s g.ptr := by
  rcases look_spot h hs with ⟨g', hg', hl⟩ | ⟨hn, _⟩
  · have h1 := getV_mem (z := g) h.nodup hg
    have h2 := getV_mem (z := g) h.nodup hg'
    rw [h1] at h2
    rw [h2]; exact hl
  · exact absurd rfl (hn _ hg)
set_option maxRecDepth 100000 in
/-- 's, ok := l.waits[who]'. -/
theorem look_wait {w : World} {wb : Nat} {V : List (Int × Spot)} (h : MapAt Tryz.prog 2 ikey spV w wb V) {who : Int} (hw : (Lit.int .i64 who).wf = true) :
    (Instr.lookup 57 (.map (some wb)) (.int .i64 who) true).run Tryz.prog w = .ok (.tuple #[spV (getV V who (0, false, 0)), .bool ((V.map Prod.fst).contains who)]) w := by
  obtain ⟨D, h1, h2⟩ := h
  obtain ⟨v, ps, hrun, hv⟩ := h1.look_ok Tryz.keyI64 Tryz.underlying57 (Tryz.zeroSpot w) (zd := .held (spV (0, false, 0))) (zp := []) rfl (keyW hw)
  have hv2 := heldR_inv hv
  rw [h2.at_getV intKey] at hv2
  injection hv2 with hv2
  rw [hrun, ← hv2, h2.has intKey]
set_option maxRecDepth 100000 in
/-- 'x.holds[who]'. -/
theorem look_held {w : World} {hb : Nat} {M : List (Int × Int)} (h : MapAt Tryz.prog 2 ikey modV w hb M) {who : Int} (hw : (Lit.int .i64 who).wf = true) :
    (Instr.lookup 72 (.map (some hb)) (.int .i64 who) false).run Tryz.prog w = .ok (.int .u8 (getV M who 0)) w := by
  obtain ⟨D, h1, h2⟩ := h
  obtain ⟨v, ps, hrun, hv⟩ := h1.lookup Tryz.keyI64 Tryz.underlying72 (Tryz.zeroMode w) (zd := .held (modV 0)) (zp := []) rfl (keyW hw)
  have hv2 := heldR_inv hv
  rw [h2.at_getV intKey] at hv2
  injection hv2 with hv2
  rw [hrun, ← hv2]
set_option maxRecDepth 100000 in
theorem look_held_ok {w : World} {hb : Nat} {M : List (Int × Int)} (h : MapAt Tryz.prog 2 ikey modV w hb M) {who : Int} (hw : (Lit.int .i64 who).wf = true) :
    (Instr.lookup 72 (.map (some hb)) (.int .i64 who) true).run Tryz.prog w = .ok (.tuple #[.int .u8 (getV M who 0), .bool ((M.map Prod.fst).contains who)]) w := by
  obtain ⟨D, h1, h2⟩ := h
  obtain ⟨v, ps, hrun, hv⟩ := h1.look_ok Tryz.keyI64 Tryz.underlying72 (Tryz.zeroMode w) (zd := .held (modV 0)) (zp := []) rfl (keyW hw)
  have hv2 := heldR_inv hv
  rw [h2.at_getV intKey] at hv2
  injection hv2 with hv2
  rw [hrun, ← hv2, h2.has intKey]
theorem getV_holds (H : List LkE) (who : Int) (s : Spot) : getV (holdsOf H s) who 0 = heldL H who s := by
  unfold getV holdsOf prs heldL
  rw [List.find?_map]
  induction H with
  | nil => rfl
  | cons e H ih =>
    rw [List.filter_cons, List.find?_cons]
    by_cases hs : e.s = s
    · by_cases hw : e.who = who
      · have h1 : (e.s == s) = true := by rw [beq_iff_eq]; exact hs
        have h2 : (e.who == who && e.s == s) = true := by rw [Bool.and_eq_true, beq_iff_eq, beq_iff_eq]; exact ⟨hw, hs⟩
        rw [if_pos h1, h2]
        have h3 : ((fun p : Int × Int => decide (p.1 = who)) ∘ fun e : LkE => (e.who, e.m)) e = true := by simp [hw]
        rw [List.find?_cons, h3]
        rfl
      · have h1 : (e.s == s) = true := by rw [beq_iff_eq]; exact hs
        have h2 : (e.who == who && e.s == s) = false := by simp [hw]
        rw [if_pos h1, h2]
        have h3 : ((fun p : Int × Int => decide (p.1 = who)) ∘ fun e : LkE => (e.who, e.m)) e = false := by simp [hw]
        rw [List.find?_cons, h3]
        exact ih
    · have h1 : ¬ (e.s == s) = true := by rw [beq_iff_eq]; exact hs
      have h2 : (e.who == who && e.s == s) = false := by simp [hs]
      rw [if_neg h1, h2]
      exact ih
set_option maxRecDepth 100000 in
/-- Deletes. -/
theorem del_spot {w : World} {sb : Nat} {G : List (Spot × GX)} (h : MapAt Tryz.prog 30 skey GX.ptr w sb G) {s : Spot} (hs : SWf s) (ty : TypeId) :
    ∃ w', (Builtin.delete_ #[56, 30] ty #[.map (some sb), spV s]).run Tryz.prog w = .ok (.tuple #[]) w' ∧ MapAt Tryz.prog 30 skey GX.ptr w' sb (G.filter fun p => !decide (p.1 = s)) ∧ Fr w w' (fun j => j = sb) := by
  obtain ⟨D, h1, h2⟩ := h
  obtain ⟨w1, hrun, h3, h4⟩ := h1.drop Tryz.keySpot Tryz.underlying56 (keySpot hs) ty
  exact ⟨w1, hrun, .mk h3 (h2.del spotKey s), turned_fr h4⟩
set_option maxRecDepth 100000 in
theorem del_wait {w : World} {wb : Nat} {V : List (Int × Spot)} (h : MapAt Tryz.prog 2 ikey spV w wb V) {who : Int} (hw : (Lit.int .i64 who).wf = true) (ty : TypeId) :
    ∃ w', (Builtin.delete_ #[57, 2] ty #[.map (some wb), .int .i64 who]).run Tryz.prog w = .ok (.tuple #[]) w' ∧ MapAt Tryz.prog 2 ikey spV w' wb (V.filter fun p => !decide (p.1 = who)) ∧ Fr w w' (fun j => j = wb) := by
  obtain ⟨D, h1, h2⟩ := h
  obtain ⟨w1, hrun, h3, h4⟩ := h1.drop Tryz.keyI64 Tryz.underlying57 (keyW hw) ty
  exact ⟨w1, hrun, .mk h3 (h2.del intKey who), turned_fr h4⟩
set_option maxRecDepth 100000 in
theorem del_held {w : World} {hb : Nat} {M : List (Int × Int)} (h : MapAt Tryz.prog 2 ikey modV w hb M) {who : Int} (hw : (Lit.int .i64 who).wf = true) (ty : TypeId) :
    ∃ w', (Builtin.delete_ #[72, 2] ty #[.map (some hb), .int .i64 who]).run Tryz.prog w = .ok (.tuple #[]) w' ∧ MapAt Tryz.prog 2 ikey modV w' hb (M.filter fun p => !decide (p.1 = who)) ∧ Fr w w' (fun j => j = hb) := by
  obtain ⟨D, h1, h2⟩ := h
  obtain ⟨w1, hrun, h3, h4⟩ := h1.drop Tryz.keyI64 Tryz.underlying72 (keyW hw) ty
  exact ⟨w1, hrun, .mk h3 (h2.del intKey who), turned_fr h4⟩
/-- 'delete' whose run is known, as one operation. -/
theorem wp_del_run {P : Program} {w : World} {o : Oper} {a : Act} {K : Act → World → Prop} {Q : Exit → Act → World → Prop} (m x : Operand) (t k : TypeId) (hop : o.op = Op.call { callee := Callee.builtin Builtin.delete, args := #[m, x], argTypes := #[t, k] })
    (mv xv : Value) (hm : a.eval m = mv) (hx : a.eval x = xv) {w1 : World} (hrun : (Builtin.delete_ #[t, k] o.type #[mv, xv]).run P w = .ok (.tuple #[]) w1) (h : K (a.put o.dst (.tuple #[])) w1) : o.wp P a w K Q := by
  unfold Oper.wp execOp
  simp only [hop, resolve, invoke, builtin, Sem.run_bind, Sem.run_pure, Result.andThen_ok, List.map_toArray, List.map_cons, List.map_nil, hm, hx, hrun]
  exact h
theorem look_spot_out {w : World} {sb : Nat} {G : List (Spot × GX)} (h : MapAt Tryz.prog 30 skey GX.ptr w sb G) {s : Spot} (hs : SWf s) (hn : ∀ p ∈ G, p.1 ≠ s) : LookAt w sb s (.pointer none) := by
  rcases look_spot h hs with ⟨g, hg, _⟩ | ⟨_, h1⟩
  · exact absurd rfl (hn _ hg)
  · exact h1
theorem len_map {κ α : Type} {t k e : TypeId} {key : κ → Lit} {enc : α → Value} {w : World} {b : Nat} {M : List (κ × α)} (h : MapAt Tryz.prog k key enc w b M) (ht : Tryz.prog.underlying t = some (.map k e)) (ty : TypeId) : (Builtin.len_ #[t] ty #[.map (some b)]).run Tryz.prog w = .ok (.int .i64 (M.length : Int)) w := by
  obtain ⟨D, h1, h2⟩ := h
  rw [h1.len ht ty, h2.size]
end Go.Proofs.YtokeciekncincabGreat
namespace Go.Proofs.YtokeciekncincabGreat
open Go Go.RowKit Go.Maps

abbrev lkp (lb : Nat) : Value := .pointer (some ⟨lb, 0, none⟩)
/-- At lb lies a table of locks that reads as D; all that it is lies in S. -/
def LkA (w : World) (lb : Nat) (D : LkS) (S : Nat → Prop) : Prop := ∃ sb wb G, LkV w lb sb wb D (pairsW D.W) G S
theorem LkA.fr {w w' : World} {lb : Nat} {D : LkS} {S T : Nat → Prop} (h : LkA w lb D S) (hf : Fr w w' T) (hd : ∀ k, S k → ¬ T k) : LkA w' lb D S := by
  obtain ⟨sb, wb, G, h⟩ := h
  exact ⟨sb, wb, G, h.fr hf hd⟩
theorem LkA.fr0 {w w' : World} {lb : Nat} {D : LkS} {S : Nat → Prop} (h : LkA w lb D S) (hf : Fr w w' Nil) : LkA w' lb D S := h.fr hf fun _ _ h => h
theorem LkA.lt {w : World} {lb : Nat} {D : LkS} {S : Nat → Prop} (h : LkA w lb D S) : ∀ k, S k → k < w.heap.size := by
  obtain ⟨sb, wb, G, h⟩ := h
  exact h.lt
def NewLk (most : Int) (w : World) (e : Ending) (w' : World) : Prop := ∃ lb S, e = .returned (lkp lb) ∧ LkA w' lb ⟨max 0 most, [], []⟩ S ∧ (∀ k, S k → w.heap.size ≤ k) ∧ Fr w w' Nil
theorem lk_made (w : World) (m : Int) : LkA (((w.alloc (.map #[] 0)).alloc (.map #[] 0)).alloc (.cells #[.int .i64 m, .map (some w.heap.size), .map (some (w.heap.size + 1))] 59)) (w.heap.size + 2) ⟨m, [], []⟩ (fun k => k = w.heap.size ∨ k = w.heap.size + 1 ∨ k = w.heap.size + 2) := by
  refine ⟨w.heap.size, w.heap.size + 1, [], ?_, ?_, ?_, by omega, (fun p hp => by cases hp), (fun p hp => by cases hp), (fun p hp => by cases hp), (fun s _ => ⟨rfl, rfl, rfl⟩), (fun p hp => by cases hp), .inr (.inr rfl), .inl rfl, .inr (.inl rfl), (fun p hp => by cases hp), fun k hk => ?_⟩
  · have := Bk.new ((w.alloc (.map #[] 0)).alloc (.map #[] 0)) 59 #[.int .i64 m, .map (some w.heap.size), .map (some (w.heap.size + 1))]
    simpa using this
  · exact ((MapAt.made w Tryz.prog 30 skey GX.ptr).fr0 ((Fr.refl _ Nil).alloc _)).fr0 ((Fr.refl _ Nil).alloc _)
  · have := (MapAt.made (w.alloc (.map #[] 0)) Tryz.prog 2 ikey spV).fr0 ((Fr.refl _ Nil).alloc (.cells #[.int .i64 m, .map (some w.heap.size), .map (some (w.heap.size + 1))] 59))
    rw [World.size_alloc] at this
    exact this
  · simp only [World.size_alloc]; omega
set_option maxRecDepth 100000 in
set_option maxHeartbeats 1000000 in
theorem lknew_any (most : Int) (w : World) : Calls Tryz.prog 6 #[.int .i64 most] w (NewLk most w) := by
  have hmm := @run_makeMap Tryz.prog
  go_enter Tryz.func6, Tryz.ntmps6
  go_wp2_with fail
  · go_ret
    exact ⟨_, _, rfl, by rw [show max 0 most = most by omega]; exact lk_made w most, fun k hk => by (rcases hk with h | h | h <;> omega), (((Fr.refl w Nil).alloc _).alloc _).alloc _⟩
  · go_ret
    exact ⟨_, _, rfl, by rw [show max 0 most = 0 by omega]; exact lk_made w 0, fun k hk => by (rcases hk with h | h | h <;> omega), (((Fr.refl w Nil).alloc _).alloc _).alloc _⟩
theorem held_gone {D : LkS} {s : Spot} (h : holdsOf D.H s = []) (who : Int) : heldL D.H who s = 0 := by
  rw [← getV_holds, h]; rfl
set_option maxRecDepth 100000 in
set_option maxHeartbeats 2000000 in
theorem held_any {lb : Nat} {D : LkS} {S : Nat → Prop} (who : Int) (s : Spot) (w : World) (h : LkA w lb D S) (hw : (Lit.int .i64 who).wf = true) (hs : SWf s) :
    Calls Tryz.prog 16 #[lkp lb, .int .i64 who, spV s] w fun e w' => e = .returned (.int .u8 (heldL D.H who s)) ∧ Fr w w' Nil := by
  obtain ⟨sb, wb, G, hv⟩ := h
  obtain ⟨s1, s2, s3⟩ := s
  obtain ⟨r, hr⟩ : ∃ r, heldL D.H who (s1, s2, s3) = r := ⟨_, rfl⟩
  rw [hr]
  have HR := Lib.hid hr
  obtain ⟨wx, hwx⟩ : ∃ wx, w.alloc (.cells #[.int .i64 s1, .bool s2, .int .i64 s3] 30) = wx := ⟨_, rfl⟩
  have hf : Fr w wx Nil := by rw [← hwx]; exact (Fr.refl w Nil).alloc _
  have hb : Bk wx w.heap.size 30 [.int .i64 s1, .bool s2, .int .i64 s3] := by rw [← hwx]; exact Bk.new w _ _
  have hv2 := hv.fr0 hf
  have k1 : ∀ w', KeptN wx w' → w'.cell? ⟨lb, 1, none⟩ = some (.map (some sb)) := KeptN.cell (hv2.root.cell 1)
  have k2 : ∀ w', KeptN wx w' → w'.cell? ⟨w.heap.size, 0, none⟩ = some (.int .i64 s1) := KeptN.cell (hb.cell 0)
  have k3 : ∀ w', KeptN wx w' → w'.cell? ⟨w.heap.size, 1, none⟩ = some (.bool s2) := KeptN.cell (hb.cell 1)
  have k4 : ∀ w', KeptN wx w' → w'.cell? ⟨w.heap.size, 2, none⟩ = some (.int .i64 s3) := KeptN.cell (hb.cell 2)
  have HF := Lib.hid hf
  by_cases hin : ∃ g, ((s1, s2, s3), g) ∈ G
  · obtain ⟨g, hg⟩ := hin
    have hx := hv2.at_ _ hg
    have k5 : ∀ w', KeptN wx w' → (Instr.lookup 56 (.map (some sb)) (.agg #[.int .i64 s1, .bool s2, .int .i64 s3]) false).run Tryz.prog w' = .ok (xptr g.xb) w' := fun w' hk' => look_spot_in (hv2.fr0 hk').spots hs hg
    have k6 : ∀ w', KeptN wx w' → w'.cell? ⟨g.xb, 0, none⟩ = some (.map (some g.hb)) := KeptN.cell (hx.box.cell 0)
    have k7 : ∀ w', KeptN wx w' → (Instr.lookup 72 (.map (some g.hb)) (.int .i64 who) false).run Tryz.prog w' = .ok (.int .u8 r) w' := fun w' hk' => by
      have h1 := look_held (hx.fr0 hk').holds hw
      rw [getV_holds, hr] at h1
      exact h1
    generalize g.xb = xb at *
    generalize g.hb = hb' at *
    clear hx hv hv2 hf hb hg hr
    go_enter Tryz.func16, Tryz.ntmps16
    go_wp2_with fail
    refine wp_region_sink 10 (KeptN wx) (by kernel_rfl) ?_
    have hSa : KeptN wx wx.drew := KeptN.start wx
    refine tk 0 hSa ?_
    refine tk 1 hSa ?_
    refine tk 2 hSa ?_
    refine tk 3 hSa ?_
    refine tk 4 hSa ?_
    refine tk 5 hSa ?_
    try simp only [Act.put, sA, sB, sC]
    refine tk 6 hSa ?_ (hy := by intro _ w; have ck1 := k1 _ w; go_simp <;> with_reducible rfl)
    try simp only [Act.put, sA, sB, sC]
    refine tk 7 hSa ?_ (hy := by intro _ w; have ck2 := k2 _ w; have ck3 := k3 _ w; have ck4 := k4 _ w; go_simp <;> with_reducible rfl)
    try simp only [Act.put, sA, sB, sC]
    refine tk 8 hSa ?_ (hy := by intro _ w; have ck5 := k5 _ w; go_simp <;> with_reducible rfl)
    try simp only [Act.put, sA, sB, sC]
    refine tk 9 hSa ?_
    try simp only [Act.put, sA, sB, sC]
    refine wpAnyS_last (i := 10) rfl (by kernel_rfl) (by decide) (by kernel_rfl) (by rfl) fun K hK => ?_
    go_simp
    refine hK.out _ _ ?_
    clear hK K
    go_wp2_with fail
    refine wp_region_sink 11 (KeptN wx) (by kernel_rfl) ?_
    have hSb : KeptN wx wx.drew.drew := hSa.next (Fr.refl _ Nil).drew
    refine tk 0 hSb ?_
    refine tk 1 hSb ?_
    refine tk 2 hSb ?_
    try simp only [Act.put, sA, sB, sC]
    refine tk 3 hSb ?_ (hy := by intro _ w; have ck1 := k1 _ w; go_simp <;> with_reducible rfl)
    try simp only [Act.put, sA, sB, sC]
    refine tk 4 hSb ?_ (hy := by intro _ w; have ck2 := k2 _ w; have ck3 := k3 _ w; have ck4 := k4 _ w; go_simp <;> with_reducible rfl)
    try simp only [Act.put, sA, sB, sC]
    refine tk 5 hSb ?_ (hy := by intro _ w; have ck5 := k5 _ w; go_simp <;> with_reducible rfl)
    try simp only [Act.put, sA, sB, sC]
    refine tk 6 hSb ?_
    refine tk 7 hSb ?_
    try simp only [Act.put, sA, sB, sC]
    refine tk 8 hSb ?_ (hy := by intro _ w; have ck6 := k6 _ w; go_simp <;> with_reducible rfl)
    try simp only [Act.put, sA, sB, sC]
    refine tk 9 hSb ?_
    try simp only [Act.put, sA, sB, sC]
    refine tk 10 hSb ?_ (hy := by intro _ w; have ck7 := k7 _ w; go_simp <;> with_reducible rfl)
    try simp only [Act.put, sA, sB, sC]
    refine wpAnyS_last (i := 11) rfl (by kernel_rfl) (by decide) (by kernel_rfl) (by rfl) fun K hK => ?_
    go_simp
    refine hK.out _ _ ?_
    clear hK K
    have HFS := Lib.hid (HF.out.trans0 hSb.fr)
    clear hSa hSb k1 k2 k3 k4 k5 k6 k7
    go_wp2_with fail
    go_ret
    exact ⟨rfl, HFS.out⟩
  · have hno : ∀ p ∈ G, p.1 ≠ (s1, s2, s3) := fun p hp e => hin ⟨p.2, by rw [← e]; exact hp⟩
    have k5 : ∀ w', KeptN wx w' → (Instr.lookup 56 (.map (some sb)) (.agg #[.int .i64 s1, .bool s2, .int .i64 s3]) false).run Tryz.prog w' = .ok (.pointer none) w' := fun w' hk' => look_spot_out (hv2.fr0 hk').spots hs hno
    have hr0 : r = 0 := by rw [← hr]; exact held_gone (hv2.gone _ hno).1 who
    subst hr0
    clear hv hv2 hf hb hno hr hin
    go_enter Tryz.func16, Tryz.ntmps16
    go_wp2_with fail
    refine wp_region_sink 10 (KeptN wx) (by kernel_rfl) ?_
    have hSa : KeptN wx wx.drew := KeptN.start wx
    refine tk 0 hSa ?_
    refine tk 1 hSa ?_
    refine tk 2 hSa ?_
    refine tk 3 hSa ?_
    refine tk 4 hSa ?_
    refine tk 5 hSa ?_
    try simp only [Act.put, sA, sB, sC]
    refine tk 6 hSa ?_ (hy := by intro _ w; have ck1 := k1 _ w; go_simp <;> with_reducible rfl)
    try simp only [Act.put, sA, sB, sC]
    refine tk 7 hSa ?_ (hy := by intro _ w; have ck2 := k2 _ w; have ck3 := k3 _ w; have ck4 := k4 _ w; go_simp <;> with_reducible rfl)
    try simp only [Act.put, sA, sB, sC]
    refine tk 8 hSa ?_ (hy := by intro _ w; have ck5 := k5 _ w; go_simp <;> with_reducible rfl)
    try simp only [Act.put, sA, sB, sC]
    refine tk 9 hSa ?_
    try simp only [Act.put, sA, sB, sC]
    refine wpAnyS_last (i := 10) rfl (by kernel_rfl) (by decide) (by kernel_rfl) (by rfl) fun K hK => ?_
    go_simp
    refine hK.out _ _ ?_
    clear hK K
    have HFS := Lib.hid (HF.out.trans0 hSa.fr)
    clear hSa k1 k2 k3 k4 k5
    go_wp2_with fail
    go_ret
    exact ⟨rfl, HFS.out⟩
end Go.Proofs.YtokeciekncincabGreat
namespace Go.Proofs.YtokeciekncincabGreat
open Go Go.RowKit Go.Maps

theorem sum_parts : ∀ (ks : List Spot) (l : List LkE), ks.Nodup → (∀ e ∈ l, e.s ∈ ks) → (ks.map fun s => (l.filter fun e => e.s == s).length).sum = l.length
  | [], l, _, h => by
    cases l with
    | nil => rfl
    | cons e l => have := h e List.mem_cons_self; cases this
  | k :: ks, l, hn, h => by
    obtain ⟨h1, h2⟩ := List.nodup_cons.1 hn
    rw [List.map_cons, List.sum_cons]
    have h3 := sum_parts ks (l.filter fun e => e.s != k) h2 fun e he => by
      obtain ⟨h4, h5⟩ := List.mem_filter.1 he
      rw [bne_iff_ne] at h5
      exact (List.mem_cons.1 (h e h4)).resolve_left h5
    have h6 : (ks.map fun s => ((l.filter fun e => e.s != k).filter fun e => e.s == s).length) = ks.map fun s => (l.filter fun e => e.s == s).length := by
      refine List.map_congr_left fun s hs => ?_
      rw [List.filter_filter]
      refine congrArg List.length (List.filter_congr fun e _ => ?_)
      by_cases he : e.s = s
      · have : e.s ≠ k := fun e2 => h1 (by rw [← e2, he]; exact hs)
        have h7 : (e.s != k) = true := by rw [bne_iff_ne]; exact this
        rw [h7, Bool.and_true]
      · have h7 : (e.s == s) = false := by rw [beq_eq_false_iff_ne]; exact he
        rw [h7, Bool.false_and]
    rw [h6] at h3
    rw [h3]
    clear h3 h6 h hn h1 h2
    induction l with
    | nil => rfl
    | cons e l ih =>
      rw [List.filter_cons, List.filter_cons]
      by_cases he : e.s = k
      · have h7 : (e.s == k) = true := by rw [beq_iff_eq]; exact he
        have h8 : (e.s != k) = false := by simp [he]
        rw [if_pos h7, h8]
        simp only [List.length_cons, Bool.false_eq_true, if_false]
        omega
      · have h7 : ¬ (e.s == k) = true := by rw [beq_iff_eq]; exact he
        have h8 : (e.s != k) = true := by rw [bne_iff_ne]; exact he
        rw [if_neg h7, if_pos h8, List.length_cons, List.length_cons]
        omega
def useP (D : LkS) (p : Spot × GX) : Nat := (holdsOf D.H p.1).length + (prs (restL D.H D.W p.1)).length
def useS (D : LkS) (L : List (Spot × GX)) : Nat := (L.map (useP D)).sum
theorem useS_mid (D : LkS) (A B : List (Spot × GX)) (p : Spot × GX) : useS D (A ++ p :: B) = useS D (A ++ B) + useP D p := by
  unfold useS
  simp only [List.map_append, List.map_cons, List.sum_append, List.sum_cons]
  omega
theorem restL_filter (H W : List LkE) (s : Spot) : restL H W s = (W.filter fun e => heldL H e.who e.s == 0).filter fun e => e.s == s := by
  unfold restL
  rw [List.filter_filter]
  refine List.filter_congr fun e _ => ?_
  by_cases h : e.s = s
  · subst h; simp
  · have h7 : (e.s == s) = false := by rw [beq_eq_false_iff_ne]; exact h
    rw [h7, Bool.false_and, Bool.false_and]
theorem useS_all {w : World} {lb sb wb : Nat} {D : LkS} {V : List (Int × Spot)} {G : List (Spot × GX)} {S : Nat → Prop} (h : LkV w lb sb wb D V G S) : useS D G = usedL D := by
  have hk := h.spots.nodup
  have hH : ∀ e ∈ D.H, e.s ∈ G.map Prod.fst := fun e he => by
    apply Classical.byContradiction
    intro hn
    have h1 := (h.gone e.s fun p hp e2 => hn (List.mem_map.2 ⟨p, hp, e2⟩)).1
    have h2 : (e.who, e.m) ∈ holdsOf D.H e.s := List.mem_map.2 ⟨e, List.mem_filter.2 ⟨he, by simp⟩, rfl⟩
    rw [h1] at h2; cases h2
  have hR : ∀ e ∈ D.W.filter (fun e => heldL D.H e.who e.s == 0), e.s ∈ G.map Prod.fst := fun e he => by
    apply Classical.byContradiction
    intro hn
    have h1 := (h.gone e.s fun p hp e2 => hn (List.mem_map.2 ⟨p, hp, e2⟩)).2.2
    have h2 : e ∈ restL D.H D.W e.s := by rw [restL_filter]; exact List.mem_filter.2 ⟨he, by simp⟩
    have h3 : restL D.H D.W e.s = [] := List.map_eq_nil_iff.1 h1
    rw [h3] at h2; cases h2
  have s1 := sum_parts _ _ hk hH
  have s2 := sum_parts _ _ hk hR
  have e1 : useS D G = ((G.map Prod.fst).map fun s => (D.H.filter fun e => e.s == s).length).sum + ((G.map Prod.fst).map fun s => ((D.W.filter fun e => heldL D.H e.who e.s == 0).filter fun e => e.s == s).length).sum := by
    unfold useS
    clear s1 s2 hH hR hk h
    induction G with
    | nil => rfl
    | cons p G ih =>
      simp only [List.map_cons, List.sum_cons]
      rw [ih]
      have e2 : useP D p = (D.H.filter fun e => e.s == p.1).length + ((D.W.filter fun e => heldL D.H e.who e.s == 0).filter fun e => e.s == p.1).length := by
        unfold useP
        rw [prs_len, restL_filter]
        unfold holdsOf
        rw [prs_len]
      rw [e2]
      omega
  rw [e1, s1, s2]
  rfl
theorem Tryz.invSpot : ∀ v kl, keyOf Tryz.prog 30 v = some kl → ∃ x : Spot, v = spV x ∧ kl = skey x := fun v kl h => by
  obtain ⟨s, h1, h2, _⟩ := keySpot_inv h
  exact ⟨s, h1, h2⟩
theorem wrapS (x : Int) (h1 : 0 ≤ x) (h2 : x ≤ 1000000) : wrap64 x = x := by unfold wrap64; omega
theorem wrapK (x : Int) (h1 : 0 ≤ x) (h2 : x ≤ 1000000) : IntKind.i64.wrap x = x := by rw [IntKind.wrap_i64]; omega
theorem use_bounds {m u nh nr n : Nat} (h : m + u + (nh + nr) = n) (hn : n ≤ 100000) : IntKind.i64.wrap ((nh : Int) + (nr : Int)) = (nh : Int) + (nr : Int) ∧ IntKind.i64.wrap ((m : Int) + ((nh : Int) + (nr : Int))) = (m : Int) + ((nh : Int) + (nr : Int)) ∧
    wrap64 ((nh : Int) + (nr : Int)) = (nh : Int) + (nr : Int) ∧ wrap64 ((m : Int) + ((nh : Int) + (nr : Int))) = (m : Int) + ((nh : Int) + (nr : Int)) :=
  ⟨wrapK _ (by omega) (by omega), wrapK _ (by omega) (by omega), wrapS _ (by omega) (by omega), wrapS _ (by omega) (by omega)⟩
/-- What is to be shown where a spot comes: shut, so that no walk takes it apart. -/
def MoreSp (ops : Array Oper) (rest : List Oper) (o : Oper) (a : Act) (Q : Exit → Act → World → Prop) (w : World) (b r : Nat) (M L : List (Spot × GX)) : Prop :=
  ∀ (x : Spot) (c : GX) (A B : List (Spot × GX)) (w' : World), L = A ++ (x, c) :: B → RangeAt Tryz.prog 30 skey GX.ptr w' b r M (A ++ B) → Fr w w' (fun j => j = r) → w'.heap.size = w.heap.size → w'.rangeLeft b r < w.rangeLeft b r →
      (Instr.entry (.pointer (some ⟨r, 0, none⟩))).run Tryz.prog w' = .ok (.tuple #[spV x, xptr c.xb]) w' → wpList Tryz.prog ops Q rest (a.put o.dst (.tuple #[.bool true, spV x, xptr c.xb])) w'
section
variable {ops : Array Oper} {rest : List Oper} {o : Oper} {a : Act} {Q : Exit → Act → World → Prop}
theorem next_sp (w : World) (hg : o.guard = none) (it : Operand) (hop : o.op = Op.next it false) (b r : Nat) (M L : List (Spot × GX))
    (hit : a.eval it = .pointer (some ⟨r, 0, none⟩)) (h : RangeAt Tryz.prog 30 skey GX.ptr w b r M L)
    (hDone : L = [] → wpList Tryz.prog ops Q rest (a.put o.dst (.tuple #[.bool false])) w) (hMore : MoreSp ops rest o a Q w b r M L) : wpList Tryz.prog ops Q (o :: rest) a w :=
  wpList_map_next w hg it hop 30 Tryz.keySpot spotKey spV Tryz.invSpot b r M L hit h hDone hMore
end
set_option maxRecDepth 100000 in
set_option maxHeartbeats 2000000 in
theorem used_any {lb : Nat} {D : LkS} {S : Nat → Prop} {N : Nat} (w : World) (h : LkA w lb D S) (hD : DOk N D) (hN : N ≤ 100000) :
    Calls Tryz.prog 20 #[lkp lb] w fun e w' => e = .returned (.int .i64 (usedL D : Nat)) ∧ Fr w w' Nil := by
  obtain ⟨sb, wb, G, hv⟩ := h
  have hall := useS_all hv
  have huse : usedL D ≤ 100000 := by
    have h1 := hD.few
    have h2 := List.length_filter_le (fun e => heldL D.H e.who e.s == 0) D.W
    unfold usedL
    omega
  obtain ⟨n, hn⟩ : ∃ n, usedL D = n := ⟨_, rfl⟩
  rw [hn] at hall huse ⊢
  have HV := Lib.hid hv
  have HALL := Lib.hid hall
  have HU := Lib.hid huse
  have q1 : w.cell? ⟨lb, 1, none⟩ = some (.map (some sb)) := hv.root.cell 1
  clear hall huse hn hD
  go_enter Tryz.func20, Tryz.ntmps20
  go_wp2_with (at_range; refine wpList_map_range _ rfl _ 56 rfl 30 71 Tryz.keySpot Tryz.underlying56 spotKey sb G rfl HV.out.spots ?_; intro w0 hr0 hf0 hs0)
  have Hr0 := Lib.hid hr0
  have Hf0 : Hid (Fr w w0 Nil) := hf0
  clear hr0 hf0 hs0 q1 hv
  go_frame
  generalize hrb : w.heap.size = rb at *
  have HRB := Lib.hid hrb
  clear hrb
  go_loopw [3] (fun vn wr => ∃ (m : Nat) (L : List (Spot × GX)), vn = .int .i64 (m : Int) ∧ Hid (m + useS D L = n) ∧ Hid (RangeAt Tryz.prog 30 skey GX.ptr wr sb rb G L) ∧ Hid (Fr w wr Nil)) (fun _ wr => wr.rangeLeft sb rb)
  case atStart => exact ⟨0, G, rfl, by show 0 + _ = n; rw [Nat.zero_add]; exact HALL.out, Hr0.out, Hf0.out⟩
  case round =>
    clear Hr0 Hf0
    obtain ⟨m, L, rfl, HM, Hr, Hf⟩ := hrel
    go_wp2_with (at_next; refine next_sp _ rfl _ rfl sb rb G L rfl Hr.out ?_ ?_)
    · intro hL
      have HL := Lib.hid hL
      clear hL
      go_wp2_with fail
      go_ret
      have : m = n := by
        have h1 := HM.out
        rw [HL.out] at h1
        simpa [useS] using h1
      subst this
      exact ⟨rfl, Hf.out⟩
    · unfold MoreSp
      intro s g A B w1 hL hr1 hf1 hs1 hlt hen
      have Hr1 := Lib.hid hr1
      have Hf1 : Hid (Fr w w1 Nil) := Hf.out.trans hf1 fun j hj hj2 => by have := HRB.out; omega
      have HL := Lib.hid hL
      have Hlt := Lib.hid hlt
      have hin : (s, g) ∈ G := Hr.out.sub _ (by rw [hL]; exact List.mem_append.2 (.inr List.mem_cons_self))
      have hx := (HV.out.fr0 Hf1.out).at_ _ hin
      have hsum : m + useS D (A ++ B) + ((holdsOf D.H s).length + (prs (restL D.H D.W s)).length) = n := by
        have h1 := HM.out
        rw [hL, useS_mid] at h1
        have h2 : useP D (s, g) = (holdsOf D.H s).length + (prs (restL D.H D.W s)).length := rfl
        omega
      have HSUM := Lib.hid hsum
      obtain ⟨ra, rc, hrv⟩ := hx.rest.shape
      have k1 : ∀ w', KeptN w1 w' → w'.cell? ⟨g.xb, 0, none⟩ = some (.map (some g.hb)) := KeptN.cell (hx.box.cell 0)
      have k2 : ∀ w', KeptN w1 w' → w'.cell? ⟨g.xb, 2, none⟩ = some (.slice ra (prs (restL D.H D.W s)).length rc) := KeptN.cell (by rw [← hrv]; exact hx.box.cell 2)
      have k3 : ∀ w', KeptN w1 w' → (Builtin.len_ #[72] 3 #[.map (some g.hb)]).run Tryz.prog w' = .ok (.int .i64 ((holdsOf D.H s).length : Int)) w' := fun w' hk => len_map (hx.fr0 hk).holds Tryz.underlying72 3
      have hub := HU.out
      obtain ⟨nh, hnh⟩ : ∃ nh, (holdsOf D.H s).length = nh := ⟨_, rfl⟩
      obtain ⟨nr, hnr⟩ : ∃ nr, (prs (restL D.H D.W s)).length = nr := ⟨_, rfl⟩
      rw [hnh] at k3 HSUM hsum
      rw [hnr] at k2 HSUM hsum
      obtain ⟨hw1, hw2, hw3, hw4⟩ := use_bounds hsum hub
      generalize g.xb = xb at *
      generalize g.hb = hb' at *
      clear hL hr1 hf1 hlt hin hx hsum hrv hub hnh hnr
      go_wp2_with fail
      refine wp_region_sink 13 (KeptN w1) (by kernel_rfl) ?_
      have hSa : KeptN w1 w1.drew := KeptN.start w1
      refine tk 0 hSa ?_
      refine tk 1 hSa ?_
      refine tk 2 hSa ?_
      refine tk 3 hSa ?_
      try simp only [Act.put, sA, sB, sC]
      refine tk 4 hSa ?_ (hy := by intro _ w; have ck1 := k1 _ w; go_simp <;> with_reducible rfl)
      try simp only [Act.put, sA, sB, sC]
      refine tk 5 hSa ?_ (hy := by intro _ w; have ck3 := k3 _ w; go_simp <;> with_reducible rfl)
      try simp only [Act.put, sA, sB, sC]
      refine tk 6 hSa ?_
      refine tk 7 hSa ?_
      refine tk 8 hSa ?_
      try simp only [Act.put, sA, sB, sC]
      refine tk 9 hSa ?_ (hy := by intro _ w; have ck2 := k2 _ w; go_simp <;> with_reducible rfl)
      try simp only [Act.put, sA, sB, sC]
      refine tk 10 hSa ?_
      refine tk 11 hSa ?_
      refine tk 12 hSa ?_
      try simp only [Act.put, sA, sB, sC]
      refine wpAnyS_last (i := 13) rfl (by kernel_rfl) (by decide) (by kernel_rfl) (by rfl) fun K hK => ?_
      go_simp
      refine hK.out _ _ ?_
      clear hK K
      have HS2 := Lib.hid hSa.fr
      clear hSa k1 k2 k3
      go_wp2_with fail
      go_roundw
      case rel => exact ⟨m + (nh + nr), A ++ B, by go_num, (by have h1 := HSUM.out; show m + (nh + nr) + useS D (A ++ B) = n; omega), Hr1.out.fr0 HS2.out, Hf1.out.trans0 HS2.out⟩
      case measure => rw [Hr1.out.left HS2.out (fun h => h) fun h => h]; exact Hlt.out
end Go.Proofs.YtokeciekncincabGreat
namespace Go.Proofs.YtokeciekncincabGreat
open Go Go.RowKit Go.Maps

set_option maxRecDepth 100000 in
set_option maxHeartbeats 2000000 in
theorem lqueue_any {lb : Nat} {D : LkS} {S : Nat → Prop} {N : Nat} (s : Spot) (w : World) (h : LkA w lb D S) (hD : DOk N D) (hN : N ≤ 100000) (hs : SWf s) :
    Calls Tryz.prog 18 #[lkp lb, spV s] w (NewH (prs (queueL D.H D.W s)) w) := by
  obtain ⟨sb, wb, G, hv⟩ := h
  obtain ⟨wx, hwx⟩ : ∃ wx, w.alloc (.cells #[.int .i64 s.1, .bool s.2.1, .int .i64 s.2.2] 30) = wx := ⟨_, rfl⟩
  have hf : Fr w wx Nil := by rw [← hwx]; exact (Fr.refl w Nil).alloc _
  have hb : Bk wx w.heap.size 30 [.int .i64 s.1, .bool s.2.1, .int .i64 s.2.2] := by rw [← hwx]; exact Bk.new w _ _
  have hv2 := hv.fr0 hf
  have k1 : ∀ w', KeptN wx w' → w'.cell? ⟨lb, 1, none⟩ = some (.map (some sb)) := KeptN.cell (hv2.root.cell 1)
  have k2 : ∀ w', KeptN wx w' → w'.cell? ⟨w.heap.size, 0, none⟩ = some (.int .i64 s.1) := KeptN.cell (hb.cell 0)
  have k3 : ∀ w', KeptN wx w' → w'.cell? ⟨w.heap.size, 1, none⟩ = some (.bool s.2.1) := KeptN.cell (hb.cell 1)
  have k4 : ∀ w', KeptN wx w' → w'.cell? ⟨w.heap.size, 2, none⟩ = some (.int .i64 s.2.2) := KeptN.cell (hb.cell 2)
  have HF := Lib.hid hf
  rw [prs_queue]
  by_cases hin : ∃ g, (s, g) ∈ G
  · obtain ⟨g, hg⟩ := hin
    have HX := Lib.hid (hv2.at_ _ hg)
    have HQF := Lib.hid (Nat.le_trans (Nat.le_trans (queue_few hD s) hN) (by decide : 100000 ≤ 1000000))
    have k5 : ∀ w', KeptN wx w' → (Instr.lookup 56 (.map (some sb)) (.agg #[.int .i64 s.1, .bool s.2.1, .int .i64 s.2.2]) false).run Tryz.prog w' = .ok (xptr g.xb) w' := fun w' hk' => look_spot_in (hv2.fr0 hk').spots hs hg
    clear hv hv2 hf hb hg
    go_enter Tryz.func18, Tryz.ntmps18
    go_wp2_with fail
    refine wp_region_sink 10 (KeptN wx) (by kernel_rfl) ?_
    have hSa : KeptN wx wx.drew := KeptN.start wx
    refine tk 0 hSa ?_
    refine tk 1 hSa ?_
    refine tk 2 hSa ?_
    refine tk 3 hSa ?_
    refine tk 4 hSa ?_
    refine tk 5 hSa ?_
    try simp only [Act.put, sA, sB, sC]
    refine tk 6 hSa ?_ (hy := by intro _ w; have ck1 := k1 _ w; go_simp <;> with_reducible rfl)
    try simp only [Act.put, sA, sB, sC]
    refine tk 7 hSa ?_ (hy := by intro _ w; have ck2 := k2 _ w; have ck3 := k3 _ w; have ck4 := k4 _ w; go_simp <;> with_reducible rfl)
    try simp only [Act.put, sA, sB, sC]
    refine tk 8 hSa ?_ (hy := by intro _ w; have ck5 := k5 _ w; go_simp <;> with_reducible rfl)
    try simp only [Act.put, sA, sB, sC]
    refine tk 9 hSa ?_
    try simp only [Act.put, sA, sB, sC]
    refine wpAnyS_last (i := 10) rfl (by kernel_rfl) (by decide) (by kernel_rfl) (by rfl) fun K hK => ?_
    go_simp
    refine hK.out _ _ ?_
    clear hK K
    go_wp2_with fail
    refine wp_region_sink 7 (KeptN wx) (by kernel_rfl) ?_
    have hSb : KeptN wx wx.drew.drew := hSa.next (Fr.refl _ Nil).drew
    refine tk 0 hSb ?_
    refine tk 1 hSb ?_
    refine tk 2 hSb ?_
    try simp only [Act.put, sA, sB, sC]
    refine tk 3 hSb ?_ (hy := by intro _ w; have ck1 := k1 _ w; go_simp <;> with_reducible rfl)
    try simp only [Act.put, sA, sB, sC]
    refine tk 4 hSb ?_ (hy := by intro _ w; have ck2 := k2 _ w; have ck3 := k3 _ w; have ck4 := k4 _ w; go_simp <;> with_reducible rfl)
    try simp only [Act.put, sA, sB, sC]
    refine tk 5 hSb ?_ (hy := by intro _ w; have ck5 := k5 _ w; go_simp <;> with_reducible rfl)
    try simp only [Act.put, sA, sB, sC]
    refine on1 6 fun K hK => ?_
    go_simp
    refine (queue_any (HX.out.fr0 hSb.fr) HQF.out).mono ?_
    rintro e w3 ⟨v3, rfl, h1, h2, h3⟩
    have hSc : KeptN wx w3 := hSb.next h3
    refine hK.out _ _ hSc ?_
    clear hK K
    try simp only [Act.put, sA, sB, sC]
    refine wpAnyS_last (i := 7) rfl (by kernel_rfl) (by decide) (by kernel_rfl) (by rfl) fun K hK => ?_
    go_simp
    refine hK.out _ _ ?_
    clear hK K
    have HN1 := Lib.hid h1
    have HN2 := Lib.hid h2
    have HN3 := Lib.hid (HF.out.trans0 hSc.fr)
    have HSZ := Lib.hid (HF.out.trans0 hSb.fr).size
    clear hSa hSb hSc h1 h2 h3 k1 k2 k3 k4 k5
    go_wp2_with fail
    go_ret
    exact ⟨v3, rfl, HN1.out, fun k hk => Nat.le_trans HSZ.out (HN2.out k hk), HN3.out⟩
  · have hno : ∀ p ∈ G, p.1 ≠ s := fun p hp e => hin ⟨p.2, by rw [← e]; exact hp⟩
    obtain ⟨_, hg2, hg3⟩ := hv.gone s hno
    have hg2' : prs (upL D.H D.W s) = [] := hg2
    have hg3' : prs (restL D.H D.W s) = [] := hg3
    rw [hg2', hg3']
    have k5 : ∀ w', KeptN wx w' → (Instr.lookup 56 (.map (some sb)) (.agg #[.int .i64 s.1, .bool s.2.1, .int .i64 s.2.2]) false).run Tryz.prog w' = .ok (.pointer none) w' := fun w' hk' => look_spot_out (hv2.fr0 hk').spots hs hno
    clear hv hv2 hf hb hg2 hg3 hg2' hg3' hno hin
    go_enter Tryz.func18, Tryz.ntmps18
    go_wp2_with fail
    refine wp_region_sink 10 (KeptN wx) (by kernel_rfl) ?_
    have hSa : KeptN wx wx.drew := KeptN.start wx
    refine tk 0 hSa ?_
    refine tk 1 hSa ?_
    refine tk 2 hSa ?_
    refine tk 3 hSa ?_
    refine tk 4 hSa ?_
    refine tk 5 hSa ?_
    try simp only [Act.put, sA, sB, sC]
    refine tk 6 hSa ?_ (hy := by intro _ w; have ck1 := k1 _ w; go_simp <;> with_reducible rfl)
    try simp only [Act.put, sA, sB, sC]
    refine tk 7 hSa ?_ (hy := by intro _ w; have ck2 := k2 _ w; have ck3 := k3 _ w; have ck4 := k4 _ w; go_simp <;> with_reducible rfl)
    try simp only [Act.put, sA, sB, sC]
    refine tk 8 hSa ?_ (hy := by intro _ w; have ck5 := k5 _ w; go_simp <;> with_reducible rfl)
    try simp only [Act.put, sA, sB, sC]
    refine tk 9 hSa ?_
    try simp only [Act.put, sA, sB, sC]
    refine wpAnyS_last (i := 10) rfl (by kernel_rfl) (by decide) (by kernel_rfl) (by rfl) fun K hK => ?_
    go_simp
    refine hK.out _ _ ?_
    clear hK K
    have HFS := Lib.hid (HF.out.trans0 hSa.fr)
    clear hSa k1 k2 k3 k4 k5
    go_wp2_with fail
    go_ret
    exact ⟨.slice none 0 0, rfl, OwnH.nil _, (fun k hk => by cases hk), HFS.out⟩
end Go.Proofs.YtokeciekncincabGreat
