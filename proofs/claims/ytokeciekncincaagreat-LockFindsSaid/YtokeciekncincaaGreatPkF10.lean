/-
  Walks of slices.IndexFunc and slices.DeleteFunc of holds, by whose they are.
  No condition but sizes.
  Rows of the call's own: a shorter look; clearing what stands behind; one element set.
  No condition.
-/
import Derived.Test.YtokeciekncincaaGreatPkF9
import Derived.Test.YtokeciekncincaaGreatPkF1
import Derived.Laws.AppendOwn
import Derived.Laws.EntriesVeiled
import Derived.Laws.OwnMore
namespace Go.Proofs.YtokeciekncincaaGreat
open Go Go.RowKit Go.Maps

theorem wclos_any (p : Int × Int) (wb : Nat) (who : Int) (W : World) (q : W.cell? ⟨wb, 0, none⟩ = some (.int .i64 who)) :
    Calls Tryz.prog 88 #[.agg #[.int .i64 p.1, .int .u8 p.2], .pointer (some ⟨wb, 0, none⟩)] W fun e W' => e = .returned (.bool (p.1 == who)) ∧ Fr W W' Nil := by
  obtain ⟨p1, p2⟩ := p
  have hf := (Fr.refl W Nil).alloc (.cells #[.int .i64 p1, .int .u8 p2] 42)
  have q1 := hf.cell q (fun h => h)
  have q2 := (Bk.new W 42 #[.int .i64 p1, .int .u8 p2]).cell 0
  have HF := Lib.hid hf
  clear hf q
  go_enter Tryz.func88, Tryz.ntmps88
  go_wp2_with fail
  go_ret
  exact ⟨rfl, HF.out⟩
theorem iclos_any (p : Int × Int) (wb : Nat) (who : Int) (W : World) (q : W.cell? ⟨wb, 0, none⟩ = some (.int .i64 who)) :
    Calls Tryz.prog 30 #[.agg #[.int .i64 p.1, .int .u8 p.2], .pointer (some ⟨wb, 0, none⟩)] W fun e W' => e = .returned (.bool (p.1 == who)) ∧ Fr W W' Nil := by
  obtain ⟨p1, p2⟩ := p
  have hf := (Fr.refl W Nil).alloc (.cells #[.int .i64 p1, .int .u8 p2] 42)
  have q1 := hf.cell q (fun h => h)
  have q2 := (Bk.new W 42 #[.int .i64 p1, .int .u8 p2]).cell 0
  have HF := Lib.hid hf
  clear hf q
  go_enter Tryz.func30, Tryz.ntmps30
  go_wp2_with fail
  go_ret
  exact ⟨rfl, HF.out⟩
/-- Where one's stands first; -1: nowhere. -/
def IdxIs (l : List (Int × Int)) (who r : Int) : Prop :=
  (r = -1 ∧ ∀ p ∈ l, p.1 ≠ who) ∨ ∃ i : Nat, r = (i : Int) ∧ i < l.length ∧ (∀ p ∈ l.take i, p.1 ≠ who) ∧ ∃ m, l[i]? = some (who, m)
/-- A function value that tells whose a hold is, wherever what lies below N, but S, lies as it lay. -/
def Tells (g : Nat) (wb : Nat) (who : Int) (w : World) (S : Nat → Prop) : Prop :=
  ∀ (p : Int × Int) (W : World), Fr w W S → Calls Tryz.prog g #[.agg #[.int .i64 p.1, .int .u8 p.2], .pointer (some ⟨wb, 0, none⟩)] W fun e W' => e = .returned (.bool (p.1 == who)) ∧ Fr W W' Nil
theorem tells_without {wb : Nat} {who : Int} {w : World} {S : Nat → Prop} (q : w.cell? ⟨wb, 0, none⟩ = some (.int .i64 who)) (hS : ¬ S wb) : Tells 88 wb who w S :=
  fun p W hf => wclos_any p wb who W (hf.cell q hS)
theorem tells_waits {wb : Nat} {who : Int} {w : World} {S : Nat → Prop} (q : w.cell? ⟨wb, 0, none⟩ = some (.int .i64 who)) (hS : ¬ S wb) : Tells 30 wb who w S :=
  fun p W hf => iclos_any p wb who W (hf.cell q hS)
set_option maxRecDepth 100000 in
set_option maxHeartbeats 1000000 in
theorem idx_any {g wb : Nat} {who : Int} {w : World} {v : Value} {l : List (Int × Int)} (hT : Tells g wb who w Nil) (hv : SlAt w 2 v l.length (l.flatMap hold2)) (hl : l.length ≤ 1000000)
    (hg : ∀ args w, (callFunc g args).run Tryz.prog w = .ok (.enter g args) w) :
    Calls Tryz.prog 29 #[v, .func (.func g) #[] #[.pointer (some ⟨wb, 0, none⟩)]] w fun e w' => ∃ r, e = .returned (.int .i64 r) ∧ IdxIs l who r ∧ Fr w w' Nil := by
  obtain ⟨a, cap, rfl⟩ := hv.shape
  have HT := Lib.hid hT
  have HV := Lib.hid hv
  clear hT hv
  go_enter Tryz.func29, Tryz.ntmps29
  go_wp2_with fail
  go_loopw [8] (fun vi wr => ∃ k : Nat, k ≤ l.length ∧ vi = .int .i64 (k : Int) ∧ Hid (∀ p ∈ l.take k, p.1 ≠ who) ∧ Hid (Fr w wr Nil)) (fun vi _ => l.length - (intOf vi).toNat)
  case atStart => exact ⟨0, by omega, rfl, (fun p hp => by simp at hp), Fr.refl _ _⟩
  case round =>
    obtain ⟨k, hk, rfl, HN, HF⟩ := hrel
    obtain ⟨wo, rfl⟩ : ∃ wo : World, wo = wr := ⟨_, rfl⟩
    by_cases hlt : k < l.length
    · have hkl : (k : Int) < (l.length : Int) := by omega
      obtain ⟨b, off, cap', hv, hc⟩ := flat_form (n := 2) (f := hold2) (fun _ => rfl) (by decide) (HV.out.fr0 HF.out) (by omega)
      cases hv
      have hgt := List.getElem?_eq_getElem hlt
      have HTK : Hid (l.take (k + 1) = l.take k ++ [l[k]]) := List.take_succ_eq_append_getElem hlt
      generalize l[k] = p at hgt HTK
      have HGT := Lib.hid hgt
      have p0 := hc k p hgt 0 _ rfl
      have p1 := hc k p hgt 1 _ rfl
      simp only [Nat.add_zero] at p0 p1
      clear hc hgt
      have cT := HT.out p
      obtain ⟨p1', p2'⟩ := p
      go_wp2_with fail
      refine (cT wo HF.out).mono ?_
      rintro e w1 ⟨rfl, hf1⟩
      have HF1 := Lib.hid (HF.out.trans0 hf1)
      clear hf1 cT
      cases hb : (p1' == who) with
      | true =>
        have HB := Lib.hid (eq_of_beq hb)
        clear hb
        go_wp2_with fail
        go_ret
        exact ⟨_, rfl, .inr ⟨k, rfl, hlt, HN.out, p2', by rw [HGT.out, ← HB.out]⟩, HF1.out⟩
      | false =>
        have HB : Hid (p1' ≠ who) := fun e => by rw [e] at hb; simp at hb
        clear hb
        go_wp2_with fail
        go_roundw
        case rel => exact ⟨k + 1, by omega, by go_num, (by rw [HTK.out]; intro q hq; rcases List.mem_append.1 hq with hq | hq; exact HN.out q hq; simp at hq; subst hq; exact HB.out), HF1⟩
        case measure => simp [intOf]; omega
    · obtain rfl : k = l.length := by omega
      go_wp2_with fail
      go_ret
      exact ⟨_, rfl, .inl ⟨rfl, by have := HN.out; rwa [List.take_length] at this⟩, HF.out⟩
end Go.Proofs.YtokeciekncincaaGreat
namespace Go.Proofs.YtokeciekncincaaGreat
open Go Go.RowKit Go.Maps

/-- A shorter look at an owned row. -/
theorem own_take {w : World} {e : TypeId} {size b n cap i : Nat} {xs : List Value} (h : w.ownsRow 0 e size (.slice (some ⟨b, 0, none⟩) n cap) n xs) (hi : i ≤ n) :
    w.ownsRow 0 e size (.slice (some ⟨b, 0, none⟩) i cap) i (xs.take (i * size)) := by
  rcases h.2 with ⟨h', _⟩ | ⟨g, cap', cur, h', hb, hg, hnc, hcm, hcs, htake⟩
  · simp at h'
  · simp only [Value.slice.injEq, Option.some.injEq, Addr.mk.injEq, and_true, true_and] at h'
    obtain ⟨rfl, rfl⟩ := h'
    have hle : i * size ≤ n * size := Nat.mul_le_mul_right _ hi
    refine ⟨by rw [List.length_take, h.1]; omega, .inr ⟨b, cap, cur, rfl, hb, hg, by omega, hcm, hcs, ?_⟩⟩
    rw [← htake, List.take_take]
    congr 1
    omega
/-- 'clear' of what stands behind what is owned: what is owned stays. -/
theorem run_clear_many {P : Program} (w : World) (t ty e : TypeId) (z : Value) (size m : Nat) (ht : P.underlying t = some (.slice e)) (hz : ∀ w, (zeroValue e).run P w = .ok z w) (hzs : z.cells.size = size) (hz1 : ∀ u ∈ (Builtin.zeroCells z.cells m).toList, u.oneCell' = true)
    (b n cap : Nat) (xs : List Value) (hown : w.ownsRow 0 e size (.slice (some ⟨b, 0, none⟩) n cap) n xs) (hm : 0 < m) (hc : n + m ≤ cap) (c : Nat) :
    ∃ w', (Builtin.clear_ #[t] ty #[.slice (some ⟨b, n * size, none⟩) m c]).run P w = .ok (.tuple #[]) w' ∧ w'.ownsRow 0 e size (.slice (some ⟨b, 0, none⟩) n cap) n xs ∧ w.grownBy w' (some b) := by
  rcases hown.2 with ⟨h', _⟩ | ⟨g, cap', cur, h', hb, hg, hnc, hcm, hcs, htake⟩
  · simp at h'
  simp only [Value.slice.injEq, Option.some.injEq, Addr.mk.injEq, and_true, true_and] at h'
  obtain ⟨rfl, rfl⟩ := h'
  have hfit : n * size + 0 + (Builtin.zeroCells z.cells m).toList.length ≤ cur.size := by
    rw [hcs, Array.length_toList, size_zeroCells, hzs]
    have : (n + m) * size ≤ cap * size := Nat.mul_le_mul_right _ hc
    rw [Nat.add_mul] at this
    omega
  have hst := run_storeCells_at P b (n * size) e (Builtin.zeroCells z.cells m).toList 0 cur w hg hfit hz1
  obtain ⟨m', rfl⟩ : ∃ m', m = m' + 1 := ⟨m - 1, by omega⟩
  have hrun : (Builtin.clear_ #[t] ty #[.slice (some ⟨b, n * size, none⟩) (m' + 1) c]).run P w = .ok (.tuple #[]) (w.setRow b (cur.toList.take (n * size) ++ (Builtin.zeroCells z.cells (m' + 1)).toList ++ cur.toList.drop (n * size + (Builtin.zeroCells z.cells (m' + 1)).toList.length)).toArray) := by
    simp only [Nat.add_zero] at hst
    simp [Builtin.clear_, run_underlying ht, hz, hst]
  refine ⟨_, hrun, ⟨hown.1, .inr ⟨b, cap, _, rfl, hb, setRow_heap w b cur _ e _ hg, hnc, hcm, ?_, ?_⟩⟩, ⟨rfl, rfl, rfl, by simp, fun k _ hk => setRow_other w b k _ (fun e => hk (by simp [e]))⟩⟩
  · simp only [List.size_toArray, List.length_append, List.length_take, List.length_drop, Array.length_toList]
    simp only [Array.length_toList] at hfit
    omega
  · have hle : n * size ≤ cur.toList.length := by rw [Array.length_toList]; omega
    rw [← htake]
    show List.take (n * size) (cur.toList.take (n * size) ++ (Builtin.zeroCells z.cells (m' + 1)).toList ++ cur.toList.drop (n * size + (Builtin.zeroCells z.cells (m' + 1)).toList.length)) = _
    rw [List.append_assoc, List.take_append_of_le_length (by rw [List.length_take]; omega), List.take_take]
    congr 1
    omega
theorem zeros_one (z : Array Value) (hz : ∀ i, i < z.size → (z[i]!).oneCell' = true) (m : Nat) : ∀ u ∈ (Builtin.zeroCells z m).toList, u.oneCell' = true := by
  intro u hu
  simp only [Builtin.zeroCells, Array.toList_map, List.mem_map, Array.toList_range, List.mem_range] at hu
  obtain ⟨i, hi, rfl⟩ := hu
  refine hz _ (Nat.mod_lt _ ?_)
  rcases Nat.eq_zero_or_pos z.size with h | h
  · rw [h] at hi; omega
  · exact h
theorem flat_set (ps : List (Int × Int)) (i : Nat) (p : Int × Int) : ((ps.flatMap hold2).set (i * 2) (.int .i64 p.1)).set (i * 2 + 1) (.int .u8 p.2) = (ps.set i p).flatMap hold2 := by
  induction ps generalizing i with
  | nil => rfl
  | cons x ps ih =>
    cases i with
    | zero => rfl
    | succ i =>
      have e : (i + 1) * 2 = i * 2 + 1 + 1 := by omega
      rw [e]
      simp only [List.flatMap_cons, List.cons_append, List.nil_append, List.set_cons_succ, ih]
theorem OwnH.set {w : World} {b cap : Nat} {ps : List (Int × Int)} (h : OwnH w (.slice (some ⟨b, 0, none⟩) ps.length cap) ps) (i : Nat) (p : Int × Int) :
    OwnH ((w.setCell ⟨b, i * 2, none⟩ (.int .i64 p.1)).setCell ⟨b, i * 2 + 1, none⟩ (.int .u8 p.2)) (.slice (some ⟨b, 0, none⟩) (ps.set i p).length cap) (ps.set i p) := by
  have h1 := (World.ownsRow.stored (World.ownsRow.stored h (i * 2) (.int .i64 p.1)).1 (i * 2 + 1) (.int .u8 p.2)).1
  rw [flat_set] at h1
  unfold OwnH
  rw [List.length_set]
  exact h1
theorem OwnH.free {w : World} {b n cap : Nat} {ps : List (Int × Int)} (h : OwnH w (.slice (some ⟨b, 0, none⟩) n cap) ps) (hn : n = ps.length) (c : Nat) : w.frozen? ⟨b, c, none⟩ = false := by
  subst hn
  exact World.ownsRow.frozenAt h c
theorem flat_take (ps : List (Int × Int)) (i : Nat) : (ps.flatMap hold2).take (i * 2) = (ps.take i).flatMap hold2 := by
  induction ps generalizing i with
  | nil => simp
  | cons x ps ih =>
    cases i with
    | zero => simp
    | succ i =>
      have e : (i + 1) * 2 = i * 2 + 1 + 1 := by omega
      rw [e]
      simp only [List.flatMap_cons, List.cons_append, List.nil_append, List.take_succ_cons, ih]
theorem OwnH.take {w : World} {b n cap i : Nat} {ps : List (Int × Int)} (h : OwnH w (.slice (some ⟨b, 0, none⟩) n cap) ps) (hn : n = ps.length) (hi : i ≤ ps.length) : OwnH w (.slice (some ⟨b, 0, none⟩) i cap) (ps.take i) := by
  subst hn
  have h1 := own_take h hi
  rw [flat_take] at h1
  have e : (ps.take i).length = i := by rw [List.length_take]; omega
  unfold OwnH
  rw [e]; exact h1
end Go.Proofs.YtokeciekncincaaGreat
