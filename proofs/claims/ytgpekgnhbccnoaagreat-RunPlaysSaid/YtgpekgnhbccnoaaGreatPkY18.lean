/-
 Walks of good, and what it uses; keyed, values.
 No condition but sizes.
 Walks of ContainsFunc over instructions, and what it uses.
 No condition but sizes.
 Walks of slices.Clone: a row of its own.
 No condition but sizes.
 What is read out of new blocks.
 No condition.
 Walk of bare; the fields that an instruction's kind has not.
 No condition.
 Walks of slices.Equal and EqualFunc beside nil.
 No condition.
-/
import Derived.Test.YtgpekgnhbccnoaaGreatPkY6
import Derived.Test.YtgpekgnhbccnoaaGreatPkY17
import Derived.Test.YtgpekgnhbccnoaaGreatPkY16
import Derived.ProofKit
import Derived.Deep.QuietTactic
import Derived.BigQuiet
import Derived.Laws.EntriesVeiled
namespace Go.Proofs.YtgpekgnhbccnoaaGreat
open Go Go.RowKit
attribute [local go_sem ↓] Go.wp_at_zero Go.wp_at_succ

theorem own_zeros {w1 : World} {g n : Nat} (h : w1.ownsRow 0 2 1 (.slice (some ⟨g, 0, none⟩) n n) n (madeCells (Value.int .i64 0).cells (n * 1)).toList) : OwnInts w1 2 (.slice (some ⟨g, 0, none⟩) n n) (List.replicate n 0) := by
 have e : (madeCells (Value.int .i64 0).cells (n * 1)).toList = (List.replicate n (0 : Int)).map (Value.int .i64) := by
  rw [Nat.mul_one, List.map_replicate]
  exact toList_madeCells_one _ _
 rw [e] at h
 unfold OwnInts
 rw [List.length_replicate]
 exact h
set_option maxRecDepth 100000 in
set_option maxHeartbeats 400000 in
theorem good1_any (tv zv : Value) (t : List TermD) (nv zb : Nat) (w : World) (ht : TermsAt w tv t) (hc : w.cell? ⟨zb, 0, none⟩ = some zv) (hz : IntsAt w zv (List.replicate nv 0)) (hl : t.length ≤ 100000) (hn : nv ≤ 1000000) :
  Calls Tryz.prog 133 #[tv, .pointer (some ⟨zb, 0, none⟩)] w fun e w' => e = .returned (.bool (!goodP nv t)) ∧ Fr w w' Nil := by
 obtain ⟨zs, hzs⟩ : ∃ zs, zs = List.replicate nv (0 : Int) := ⟨_, rfl⟩
 have hzl : zs.length ≤ 1000000 := by rw [hzs, List.length_replicate]; exact hn
 have HG : Hid (goodP nv t = (evalP zs t).2) := by rw [hzs]; exact Lib.hid rfl
 rw [← hzs] at hz
 obtain ⟨ta, tc, rfl⟩ := ht.shape
 obtain ⟨za, zc, rfl⟩ := hz.shape
 have HT := Lib.hid ht
 have HZ := Lib.hid hz
 clear ht hz hzs
 go_enter Tryz.func133, Tryz.ntmps133
 go_wp2_with fail
 refine (eval_any _ _ t zs _ HT.out HZ.out hl hzl).mono ?_
 rintro e w2 ⟨rfl, hf⟩
 have HF := Lib.hid hf
 clear hf
 go_wp2_with fail
 go_ret
 exact ⟨by rw [HG.out]; rfl, HF.out⟩
def IdxRet (b : Bool) (w : World) (e : Ending) (w' : World) : Prop := ∃ n : Int, e = .returned (.int .i64 n) ∧ decide (0 ≤ n) = b ∧ Fr w w' Nil
def FewT (l : List (List TermD)) : Prop := l.length ≤ 100000 ∧ ∀ t ∈ l, t.length ≤ 100000
theorem all_take {α : Type} {p : α → Bool} {l : List α} {k : Nat} {x : α} (h : (l.take k).all p = true) (hx : l[k]? = some x) (hp : p x = true) : (l.take (k + 1)).all p = true := by
 rw [List.take_add_one, hx, List.all_append, h]
 simp [hp]
theorem all_not {α : Type} {p : α → Bool} {l : List α} {k : Nat} {x : α} (hx : l[k]? = some x) (hp : p x = false) : l.all p = false := by
 rw [List.all_eq_false]
 exact ⟨x, List.mem_of_getElem? hx, by simp [hp]⟩
set_option maxRecDepth 100000 in
set_option maxHeartbeats 1000000 in
theorem indexT_any (v zv : Value) (l : List (List TermD)) (nv zb : Nat) (w : World) (hv : ValsAt w v l) (hc : w.cell? ⟨zb, 0, none⟩ = some zv) (hz : IntsAt w zv (List.replicate nv 0)) (hl : FewT l) (hn : nv ≤ 1000000) :
  Calls Tryz.prog 146 #[v, .func (.func 133) #[] #[.pointer (some ⟨zb, 0, none⟩)]] w (IdxRet (!l.all (goodP nv)) w) := by
 obtain ⟨a, c, rfl⟩ := hv.shape
 have HV := Lib.hid hv
 have HZ := Lib.hid hz
 have HC := Lib.hid hc
 have HL := Lib.hid hl
 have hll := hl.1
 clear hv hz hc hl
 go_enter Tryz.func146, Tryz.ntmps146
 go_wp2_with fail
 go_loopw [8] (fun vi wr => ∃ k : Nat, k ≤ l.length ∧ vi = .int .i64 k ∧ (l.take k).all (goodP nv) = true ∧ Fr w wr Nil) (fun vi _ => l.length - (intOf vi).toNat)
 case atStart => exact ⟨0, by omega, rfl, by simp, Fr.refl _ _⟩
 case round =>
  obtain ⟨k, hk, rfl, hta, hf⟩ := hrel
  have HA := Lib.hid hta
  have HF := Lib.hid hf
  clear hta hf
  by_cases hlt : k < l.length
  ·obtain ⟨b, off, cap, hvv, hvc⟩ := (HV.out.fr0 HF.out).form (by omega)
   simp only [Value.slice.injEq, true_and] at hvv
   obtain ⟨rfl, rfl⟩ := hvv
   have hg := List.getElem?_eq_getElem hlt
   generalize l[k] = t at hg
   obtain ⟨tv, p0, p1⟩ := hvc k t hg
   have htl : t.length ≤ 100000 := HL.out.2 t (List.mem_of_getElem? hg)
   have HP := Lib.hid p1
   have HG := Lib.hid hg
   have hkk : (k : Int) < (l.length : Int) := by omega
   obtain ⟨wo, rfl⟩ : ∃ wo : World, wo = wr := ⟨_, rfl⟩
   have k0 := HF.out.cell HC.out fun h => h
   obtain ⟨ta, tc, rfl⟩ := HP.out.shape
   clear hvc hg p1
   go_wp2_with fail
   refine (good1_any _ _ t nv zb _ HP.out k0 (HZ.out.fr HF.out fun _ _ h => h) htl hn).mono ?_
   rintro e w5 ⟨he, hf⟩
   have HF5 := Lib.hid (HF.out.trans0 hf)
   clear hf
   cases hgp : goodP nv t
   ·have HN := Lib.hid (all_not HG.out hgp)
    rw [hgp] at he
    subst he
    clear hgp
    go_wp2_with fail
    go_ret
    exact ⟨k, rfl, by rw [HN.out]; simp, HF5.out⟩
   ·have HN := Lib.hid (all_take HA.out HG.out hgp)
    rw [hgp] at he
    subst he
    clear hgp
    go_wp2_with fail
    go_roundw
    case rel => exact ⟨k + 1, by omega, by go_num, HN.out, HF5.out⟩
    case measure => simp [intOf]; omega
  ·have hkk : ¬ (k : Int) < (l.length : Int) := by omega
   have HE : Hid (l.all (goodP nv) = true) := by
    have h := HA.out
    rw [List.take_of_length_le (by omega)] at h
    exact h
   go_wp2_with fail
   go_ret
   exact ⟨-1, rfl, by rw [HE.out]; rfl, HF.out⟩
set_option maxRecDepth 100000 in
set_option maxHeartbeats 400000 in
theorem containsT_any (v zv : Value) (l : List (List TermD)) (nv zb : Nat) (w : World) (hv : ValsAt w v l) (hc : w.cell? ⟨zb, 0, none⟩ = some zv) (hz : IntsAt w zv (List.replicate nv 0)) (hl : FewT l) (hn : nv ≤ 1000000) :
  Calls Tryz.prog 132 #[v, .func (.func 133) #[] #[.pointer (some ⟨zb, 0, none⟩)]] w fun e w' => e = .returned (.bool (!l.all (goodP nv))) ∧ Fr w w' Nil := by
 have HV := Lib.hid hv
 have HZ := Lib.hid hz
 have HC := Lib.hid hc
 clear hv hz hc
 obtain ⟨a, c, rfl⟩ := HV.out.shape
 go_enter Tryz.func132, Tryz.ntmps132
 go_wp2_with fail
 refine (indexT_any _ zv l nv zb _ HV.out HC.out HZ.out hl hn).mono ?_
 rintro e w2 ⟨n, rfl, hb, hf⟩
 have HF := Lib.hid hf
 have HB := Lib.hid hb
 clear hf hb
 go_wp2_with fail
 go_ret
 exact ⟨by rw [← HB.out]; rfl, HF.out⟩
set_option maxRecDepth 100000 in
set_option maxHeartbeats 400000 in
theorem good_any (v : Value) (l : List (List TermD)) (nv : Nat) (w : World) (hv : ValsAt w v l) (hl : FewT l) (hn : nv ≤ 1000000) :
  Calls Tryz.prog 111 #[.int .i64 nv, v] w fun e w' => e = .returned (.bool (l.all (goodP nv))) ∧ Fr w w' Nil := by
 obtain ⟨ib, hib, hz0, hz1, hz2⟩ := info_parts (P := Tryz.prog) (e := 2) (z := .int .i64 0) (size := 1) (bytes := 8) (by kernel_rfl)
 have HV := Lib.hid hv
 clear hv
 obtain ⟨a, c, rfl⟩ := HV.out.shape
 have Hb1 : Hid (ib.bytes * nv ≤ 281474976710656) := by
  have : ib.bytes * nv ≤ 281474976710656 := by rw [hz2]; omega
  exact this
 have Hb2 : Hid (nv ≤ maxLen) := by
  have : nv ≤ maxLen := by unfold maxLen; omega
  exact this
 go_enter Tryz.func111, Tryz.ntmps111
 go_wp2_with (first | (at_make; refine wpList_make_full _ rfl _ _ 24 rfl 0 2 ib (.int .i64 0) 1 Tryz.underlying24 hib hz0 hz1 _ _ _ _ nv rfl rfl rfl rfl Hb1.out Hb2.out (Nat.zero_le _) ?_; intro w1 hown hgr; have HO := Lib.hid (own_zeros hown); have HF := Lib.hid ((Fr.refl w Nil).grown hgr (fun k hk => by cases hk)); clear hown hgr) | (fail))
 have HF2 := Lib.hid (HF.out.alloc (.cells #[.slice (some ⟨w.heap.size, 0, none⟩) nv nv] 24))
 have HZ2 := Lib.hid (HO.out.at.fr0 ((Fr.refl w1 Nil).alloc (.cells #[.slice (some ⟨w.heap.size, 0, none⟩) nv nv] 24)))
 refine (containsT_any _ _ l nv w1.heap.size _ (HV.out.fr0 HF2.out) ((Bk.new w1 _ _).cell 0) HZ2.out hl hn).mono ?_
 rintro e w2 ⟨rfl, hf⟩
 have HF3 := Lib.hid (HF2.out.trans0 hf)
 clear hf
 go_wp2_with fail
 go_ret
 exact ⟨by simp, HF3.out⟩
def keyedB (n : InstrD) : Bool := (decide (3 ≤ n.op) && decide (n.op ≤ 6)) || (decide (n.op ≤ 2) && n.row)
theorem keyedB_iff (n : InstrD) : keyedB n = true ↔ Keyed n := by
 unfold keyedB Keyed
 simp
set_option maxRecDepth 100000 in
set_option maxHeartbeats 1000000 in
theorem keyed_any (n : InstrD) (kv vv : Value) (w : World) (h1 : 1 ≤ n.op) :
  Calls Tryz.prog 110 #[n.val kv vv] w fun e w' => e = .returned (.bool (keyedB n)) ∧ Fr w w' Nil := by
 obtain ⟨op, node, mode, tab, row, col, var, dst, eq, fro, upto, key, vals⟩ := n
 simp only at h1 ⊢
 have HF : Hid (∀ o, Fr w (w.alloc o) Nil) := fun o => (Fr.refl w Nil).alloc o
 by_cases h3 : 3 ≤ op
 ·by_cases h6 : op ≤ 6
  ·have HE : Hid (keyedB ⟨op, node, mode, tab, row, col, var, dst, eq, fro, upto, key, vals⟩ = true) := by
    have : keyedB ⟨op, node, mode, tab, row, col, var, dst, eq, fro, upto, key, vals⟩ = true := by unfold keyedB; simp [h3, h6]
    exact this
   go_enter Tryz.func110, Tryz.ntmps110
   go_wp2_with fail
   go_ret
   exact ⟨by rw [HE.out]; rfl, HF.out _⟩
  ·have HE : Hid (keyedB ⟨op, node, mode, tab, row, col, var, dst, eq, fro, upto, key, vals⟩ = false) := by
    have : keyedB ⟨op, node, mode, tab, row, col, var, dst, eq, fro, upto, key, vals⟩ = false := by unfold keyedB; simp [h6]; omega
    exact this
   have hx : ¬ op = 1 := by omega
   have hy : ¬ op = 2 := by omega
   go_enter Tryz.func110, Tryz.ntmps110
   go_wp2_with fail
   go_ret
   exact ⟨by rw [HE.out]; rfl, HF.out _⟩
 ·have HE : Hid (keyedB ⟨op, node, mode, tab, row, col, var, dst, eq, fro, upto, key, vals⟩ = row) := by
   have : keyedB ⟨op, node, mode, tab, row, col, var, dst, eq, fro, upto, key, vals⟩ = row := by unfold keyedB; simp [h3]; omega
   exact this
  by_cases e1 : op = 1
  ·subst e1
   go_enter Tryz.func110, Tryz.ntmps110
   go_wp2_with fail
   go_ret
   exact ⟨by rw [HE.out]; rfl, HF.out _⟩
  ·obtain rfl : op = 2 := by omega
   go_enter Tryz.func110, Tryz.ntmps110
   go_wp2_with fail
   go_ret
   exact ⟨by rw [HE.out]; rfl, HF.out _⟩
set_option maxRecDepth 100000 in
set_option maxHeartbeats 1000000 in
theorem values_any (n : InstrD) (kv vv tv : Value) (TB : List Int) (w : World) (h : IntsAt w tv TB) (ht : TabP TB n) :
  Calls Tryz.prog 112 #[n.val kv vv, tv] w fun e w' => e = .returned (.int .i64 (wantN TB n)) ∧ Fr w w' Nil := by
 obtain ⟨op, node, mode, tab, row, col, var, dst, eq, fro, upto, key, vals⟩ := n
 unfold TabP at ht
 simp only at ht ⊢
 have HF : Hid (∀ o, Fr w (w.alloc o) Nil) := fun o => (Fr.refl w Nil).alloc o
 obtain ⟨ta, tc, rfl⟩ := h.shape
 have HI := Lib.hid h
 by_cases e4 : op = 4
 ·subst e4
  clear ht
  go_enter Tryz.func112, Tryz.ntmps112
  go_wp2_with fail
  go_ret
  exact ⟨rfl, HF.out _⟩
 by_cases e8 : op = 8
 ·subst e8
  clear ht
  go_enter Tryz.func112, Tryz.ntmps112
  go_wp2_with fail
  go_ret
  exact ⟨rfl, HF.out _⟩
 by_cases e9 : op = 9
 ·subst e9
  clear ht
  go_enter Tryz.func112, Tryz.ntmps112
  go_wp2_with fail
  go_ret
  exact ⟨rfl, HF.out _⟩
 by_cases e11 : op = 11
 ·subst e11
  clear ht
  go_enter Tryz.func112, Tryz.ntmps112
  go_wp2_with fail
  go_ret
  exact ⟨rfl, HF.out _⟩
 by_cases e5 : op = 5
 ·subst e5
  obtain ⟨t0, t1⟩ := ht (by decide)
  obtain ⟨m, rfl⟩ : ∃ m : Nat, tab = (m : Int) := ⟨tab.toNat, by omega⟩
  have hm : m < TB.length := by omega
  obtain ⟨tb, toff, tcap2, htv, hc⟩ := (h.fr0 (HF.out (.cells #[.int .u8 5, .int .i64 node, .int .u8 mode, .int .i64 m, .bool row, .int .i64 col, .int .i64 var, .int .i64 dst, .bool eq, .int .i64 fro, .int .i64 upto, kv, vv] 81))).form (by omega)
  simp only [Value.slice.injEq, true_and] at htv
  obtain ⟨rfl, rfl⟩ := htv
  have hg := List.getElem?_eq_getElem hm
  have p0 := hc m _ hg
  have HX : Hid (wantN TB ⟨5, node, mode, m, row, col, var, dst, eq, fro, upto, key, vals⟩ = TB[m]) := by
   have : wantN TB ⟨5, node, mode, m, row, col, var, dst, eq, fro, upto, key, vals⟩ = TB[m] := by
    show TB.getD m 0 = _
    rw [List.getD_eq_getElem?_getD, hg]; rfl
   exact this
  generalize TB[m] = x at p0 HX
  clear ht hg hc h
  go_enter Tryz.func112, Tryz.ntmps112
  go_wp2_with fail
  go_ret
  exact ⟨by rw [HX.out]; rfl, HF.out _⟩
 have HX : Hid (wantN TB ⟨op, node, mode, tab, row, col, var, dst, eq, fro, upto, key, vals⟩ = 0) := by
  have : wantN TB ⟨op, node, mode, tab, row, col, var, dst, eq, fro, upto, key, vals⟩ = 0 := by
   unfold wantN
   rw [if_neg (by simp; omega), if_neg (by simp; omega), if_neg (by simp; omega)]
  exact this
 clear ht h
 go_enter Tryz.func112, Tryz.ntmps112
 go_wp2_with fail
 go_ret
 exact ⟨by rw [HX.out]; rfl, HF.out _⟩
end Go.Proofs.YtgpekgnhbccnoaaGreat
namespace Go.Proofs.YtgpekgnhbccnoaaGreat
open Go Go.RowKit
attribute [local go_sem ↓] Go.wp_at_zero Go.wp_at_succ

theorem code_seg {w : World} {b off cap : Nat} {L : List InstrD} (h : CodeAt w (.slice (some ⟨b, off, none⟩) L.length cap) L) (lo n c : Nat) (hn : lo + n ≤ L.length) : CodeAt w (.slice (some ⟨b, off + lo * 13, none⟩) n c) ((L.drop lo).take n) := by
 have hl : ((L.drop lo).take n).length = n := by rw [List.length_take, List.length_drop]; omega
 refine ⟨some ⟨b, off + lo * 13, none⟩, c, by rw [hl], .inr ⟨b, off + lo * 13, rfl, fun i m hm => ?_⟩⟩
 rw [List.getElem?_take] at hm
 split at hm
 ·rename_i hi
  rw [List.getElem?_drop] at hm
  obtain ⟨b2, off2, cap2, hv, hc⟩ := h.form (by omega)
  simp only [Value.slice.injEq, Option.some.injEq, Addr.mk.injEq, and_true, true_and] at hv
  obtain ⟨⟨rfl, rfl⟩, rfl⟩ := hv
  have := hc (lo + i) m hm
  rwa [show off + (lo + i) * 13 = off + lo * 13 + i * 13 by omega] at this
 ·cases hm
theorem InstrAt.cell {w : World} {b o : Nat} {n : InstrD} (h : InstrAt w b o n) : ∃ ka kc va vc, TermsAt w (.slice ka n.key.length kc) n.key ∧ ValsAt w (.slice va n.vals.length vc) n.vals ∧
  w.cell? ⟨b, o, none⟩ = some (.int .u8 n.op) ∧ w.cell? ⟨b, o + 1, none⟩ = some (.int .i64 n.node) ∧ w.cell? ⟨b, o + 2, none⟩ = some (.int .u8 n.mode) ∧ w.cell? ⟨b, o + 3, none⟩ = some (.int .i64 n.tab) ∧ w.cell? ⟨b, o + 4, none⟩ = some (.bool n.row) ∧
  w.cell? ⟨b, o + 5, none⟩ = some (.int .i64 n.col) ∧ w.cell? ⟨b, o + 6, none⟩ = some (.int .i64 n.var) ∧ w.cell? ⟨b, o + 7, none⟩ = some (.int .i64 n.dst) ∧ w.cell? ⟨b, o + 8, none⟩ = some (.bool n.eq) ∧ w.cell? ⟨b, o + 9, none⟩ = some (.int .i64 n.fro) ∧
  w.cell? ⟨b, o + 10, none⟩ = some (.int .i64 n.upto) ∧ w.cell? ⟨b, o + 11, none⟩ = some (.slice ka n.key.length kc) ∧ w.cell? ⟨b, o + 12, none⟩ = some (.slice va n.vals.length vc) := by
 obtain ⟨kv, vv, hc, hk, hv⟩ := h
 obtain ⟨ka, kc, rfl⟩ := hk.shape
 obtain ⟨va, vc, rfl⟩ := hv.shape
 exact ⟨ka, kc, va, vc, hk, hv, hc 0 _ rfl, hc 1 _ rfl, hc 2 _ rfl, hc 3 _ rfl, hc 4 _ rfl, hc 5 _ rfl, hc 6 _ rfl, hc 7 _ rfl, hc 8 _ rfl, hc 9 _ rfl, hc 10 _ rfl, hc 11 _ rfl, hc 12 _ rfl⟩
set_option maxRecDepth 100000 in
set_option maxHeartbeats 400000 in
theorem right1_any (n : InstrD) (kv vv : Value) (w : World) (b : Bool) (hb : decide (n.op = 15) = b) :
  Calls Tryz.prog 81 #[n.val kv vv] w fun e w' => e = .returned (.bool b) ∧ Fr w w' Nil := by
 have HF : Hid (∀ o, Fr w (w.alloc o) Nil) := fun o => (Fr.refl w Nil).alloc o
 obtain ⟨op, node, mode, tab, row, col, var, dst, eq, fro, upto, key, vals⟩ := n
 simp only [InstrD.val] at hb ⊢
 by_cases h : op = 15
 ·subst h
  have HB : Hid (b = true) := by rw [← hb]; exact Lib.hid rfl
  clear hb
  go_enter Tryz.func81, Tryz.ntmps81
  go_wp2_with fail
  go_ret
  exact ⟨by rw [HB.out]; rfl, HF.out _⟩
 ·have HB : Hid (b = false) := by rw [← hb]; exact Lib.hid (decide_eq_false h)
  have e : (op == 15) = false := by rw [beq_eq_false_iff_ne]; exact h
  clear hb h
  go_enter Tryz.func81, Tryz.ntmps81
  go_wp2_with fail
  go_ret
  exact ⟨by rw [HB.out]; rfl, HF.out _⟩
def mark (n : InstrD) : Bool := decide (n.op = 15)
theorem any_take {α : Type} {p : α → Bool} {l : List α} {k : Nat} {x : α} (h : (l.take k).any p = false) (hx : l[k]? = some x) (hp : p x = false) : (l.take (k + 1)).any p = false := by
 rw [List.take_add_one, hx, List.any_append, h]
 simp [hp]
theorem any_yes {α : Type} {p : α → Bool} {l : List α} {k : Nat} {x : α} (hx : l[k]? = some x) (hp : p x = true) : l.any p = true := by
 rw [List.any_eq_true]
 exact ⟨x, List.mem_of_getElem? hx, hp⟩
set_option maxRecDepth 100000 in
set_option maxHeartbeats 1000000 in
theorem indexC_any (v : Value) (L : List InstrD) (w : World) (hv : CodeAt w v L) (hl : L.length ≤ 100000) :
  Calls Tryz.prog 113 #[v, .func (.func 81) #[] #[]] w (IdxRet (L.any mark) w) := by
 obtain ⟨a, c, rfl⟩ := hv.shape
 have HV := Lib.hid hv
 clear hv
 go_enter Tryz.func113, Tryz.ntmps113
 go_wp2_with fail
 go_loopw [8] (fun vi wr => ∃ k : Nat, k ≤ L.length ∧ vi = .int .i64 k ∧ (L.take k).any mark = false ∧ Fr w wr Nil) (fun vi _ => L.length - (intOf vi).toNat)
 case atStart => exact ⟨0, by omega, rfl, by simp, Fr.refl _ _⟩
 case round =>
  obtain ⟨k, hk, rfl, hta, hf⟩ := hrel
  have HA := Lib.hid hta
  have HF := Lib.hid hf
  clear hta hf
  by_cases hlt : k < L.length
  ·obtain ⟨b, off, cap, hvv, hvc⟩ := (HV.out.fr0 HF.out).form (by omega)
   simp only [Value.slice.injEq, true_and] at hvv
   obtain ⟨rfl, rfl⟩ := hvv
   have hg := List.getElem?_eq_getElem hlt
   generalize L[k] = n at hg
   obtain ⟨ka, kc, va, vc, -, -, p0, p1, p2, p3, p4, p5, p6, p7, p8, p9, p10, p11, p12⟩ := (hvc k n hg).cell
   have HG := Lib.hid hg
   have hkk : (k : Int) < (L.length : Int) := by omega
   clear hvc hg
   go_wp2_with fail
   refine (right1_any n _ _ _ (mark n) rfl).mono ?_
   rintro e w5 ⟨he, hf⟩
   have HF5 := Lib.hid (HF.out.trans0 hf)
   clear hf p0 p1 p2 p3 p4 p5 p6 p7 p8 p9 p10 p11 p12
   cases hgp : mark n
   ·have HN := Lib.hid (any_take HA.out HG.out hgp)
    rw [hgp] at he
    subst he
    clear hgp
    go_wp2_with fail
    go_roundw
    case rel => exact ⟨k + 1, by omega, by go_num, HN.out, HF5.out⟩
    case measure => simp [intOf]; omega
   ·have HN := Lib.hid (any_yes HG.out hgp)
    rw [hgp] at he
    subst he
    clear hgp
    go_wp2_with fail
    go_ret
    exact ⟨k, rfl, by rw [HN.out]; simp, HF5.out⟩
  ·have hkk : ¬ (k : Int) < (L.length : Int) := by omega
   have HE : Hid (L.any mark = false) := by
    have h := HA.out
    rw [List.take_of_length_le (by omega)] at h
    exact h
   go_wp2_with fail
   go_ret
   exact ⟨-1, rfl, by rw [HE.out]; rfl, HF.out⟩
set_option maxRecDepth 100000 in
set_option maxHeartbeats 400000 in
theorem containsC_any (v : Value) (L : List InstrD) (w : World) (hv : CodeAt w v L) (hl : L.length ≤ 100000) :
  Calls Tryz.prog 80 #[v, .func (.func 81) #[] #[]] w fun e w' => e = .returned (.bool (L.any mark)) ∧ Fr w w' Nil := by
 have HV := Lib.hid hv
 clear hv
 obtain ⟨a, c, rfl⟩ := HV.out.shape
 go_enter Tryz.func80, Tryz.ntmps80
 go_wp2_with fail
 refine (indexC_any _ L _ HV.out hl).mono ?_
 rintro e w2 ⟨n, rfl, hb, hf⟩
 have HF := Lib.hid hf
 have HB := Lib.hid hb
 clear hf hb
 go_wp2_with fail
 go_ret
 exact ⟨by rw [← HB.out]; rfl, HF.out⟩
end Go.Proofs.YtgpekgnhbccnoaaGreat
namespace Go.Proofs.YtgpekgnhbccnoaaGreat
open Go Go.RowKit

/-- A slice that reads as these cells, of size a piece. -/
def CSl (w : World) (size : Nat) (v : Value) (n : Nat) (cs : List Value) : Prop :=
 cs.length = n * size ∧ ∃ a cap, v = .slice a n cap ∧ (a = none → n = 0) ∧ ∀ ad, a = some ad → ∀ j u, cs[j]? = some u → w.cell? (ad.add j) = some u
def CloneRet (e : TypeId) (size n : Nat) (cs : List Value) (w : World) (en : Ending) (w' : World) : Prop :=
 ∃ a c, en = .returned (.slice a n c) ∧ w'.ownsRow w.heap.size e size (.slice a n c) n cs ∧ Fr w w' Nil
theorem CSl.of_sl {w : World} {size n : Nat} {v : Value} {cs : List Value} (h : SlAt w size v n cs) : CSl w size v n cs := by
 obtain ⟨h1, ⟨rfl, h2⟩ | ⟨a, cap, rfl, hc⟩⟩ := h
 ·exact ⟨h1, none, 0, by rw [h2], (fun _ => h2), (fun ad h => by cases h)⟩
 ·exact ⟨h1, some a, cap, rfl, (fun h => by cases h), (fun ad h => by cases h; exact hc)⟩
theorem Tryz.infoCI : (Tryz.prog.info? 81).map (fun i => (i.zero, i.size, i.bytes)) = some (some (.agg #[.int .u8 0, .int .i64 0, .int .u8 0, .int .i64 0, .bool false, .int .i64 0, .int .i64 0, .int .i64 0, .bool false, .int .i64 0, .int .i64 0, .slice none 0 0, .slice none 0 0]), 13, 136) := by kernel_rfl
set_option maxRecDepth 100000 in
set_option maxHeartbeats 400000 in
theorem cloneI_any (v : Value) (n : Nat) (cs : List Value) (w : World) (h : CSl w 13 v n cs) (h1 : ∀ u ∈ cs, u.oneCell' = true) (hl : n ≤ 100000) :
  Calls Tryz.prog 82 #[v] w (CloneRet 81 13 n cs w) := by
 obtain ⟨i0, hi, hz0, hz1, hz2⟩ := info_parts Tryz.infoCI
 obtain ⟨hcl, a, cap, rfl, hn, hc⟩ := h
 cases a with
 | none =>
  obtain rfl := hn rfl
  obtain rfl : cs = [] := List.eq_nil_of_length_eq_zero (by omega)
  have e0 := fun (w : World) => Lib.run_eql_slice_nil (P := Tryz.prog) w 22 81 none 0 cap 0 0 Tryz.underlying22
  clear hn hc hcl
  go_enter Tryz.func82, Tryz.ntmps82
  go_wp2_with fail
  go_ret
  exact ⟨none, 0, rfl, World.ownsRow_nil _ _ _ _, Fr.refl _ _⟩
 | some a =>
  have Hc := Lib.hid (hc a rfl)
  have H1 := Lib.hid h1
  have HL := Lib.hid hcl
  clear hc hn h1 hcl
  have e0 := fun (w : World) => Lib.run_eql_slice_nil (P := Tryz.prog) w 22 81 (some a) n cap 0 0 Tryz.underlying22
  go_enter Tryz.func82, Tryz.ntmps82
  go_wp2_with (at_builtin; refine wpList_append_own _ rfl _ _ 22 rfl w.heap.size 81 i0 (.agg #[.int .u8 0, .int .i64 0, .int .u8 0, .int .i64 0, .bool false, .int .i64 0, .int .i64 0, .int .i64 0, .bool false, .int .i64 0, .int .i64 0, .slice none 0 0, .slice none 0 0]) 13 136 Tryz.underlying22 hi hz0 hz1 hz2 rfl (by decide) _ 0 [] rfl (World.ownsRow_made _ #[] 0 (Nat.le_refl _) (by decide) rfl) a n cap cs rfl ?c1 ?c2 ?c3 ?c4 ?c5 ?c6 ?_)
  case c1 => exact HL.out
  case c2 => exact fun j u hu => ((Fr.refl w Nil).alloc _).cell (Hc.out j u hu) (fun h => h)
  case c3 => exact H1.out
  case c4 => unfold maxLen; omega
  case c5 => omega
  case c6 => simp
  intro v' w' ho hg _
  have Ho := Lib.hid ho
  have Hg := Lib.hid hg
  clear ho hg
  go_wp2
  go_ret
  have Hos : ∃ a c, v' = .slice a n c := by
   rcases Ho.out.2 with ⟨rfl, hn⟩ | ⟨g, cap, cur, rfl, _⟩
   ·exact ⟨none, 0, by rw [← hn]⟩
   ·exact ⟨_, cap, rfl⟩
  obtain ⟨a', c', rfl⟩ := Hos
  have ho2 := Ho.out
  refine ⟨a', c', rfl, ho2, ((Fr.refl w Nil).alloc _).grown Hg.out ?_⟩
  intro k hk hlt
  simp [Value.ownBlock] at hk
  omega
theorem Tryz.infoCT : (Tryz.prog.info? 84).map (fun i => (i.zero, i.size, i.bytes)) = some (some (.agg #[.int .u8 0, .int .i64 0, .int .i64 0]), 3, 24) := by kernel_rfl
set_option maxRecDepth 100000 in
set_option maxHeartbeats 400000 in
theorem cloneT_any (v : Value) (n : Nat) (cs : List Value) (w : World) (h : CSl w 3 v n cs) (h1 : ∀ u ∈ cs, u.oneCell' = true) (hl : n ≤ 100000) :
  Calls Tryz.prog 83 #[v] w (CloneRet 84 3 n cs w) := by
 obtain ⟨i0, hi, hz0, hz1, hz2⟩ := info_parts Tryz.infoCT
 obtain ⟨hcl, a, cap, rfl, hn, hc⟩ := h
 cases a with
 | none =>
  obtain rfl := hn rfl
  obtain rfl : cs = [] := List.eq_nil_of_length_eq_zero (by omega)
  have e0 := fun (w : World) => Lib.run_eql_slice_nil (P := Tryz.prog) w 77 84 none 0 cap 0 0 Tryz.underlying77
  clear hn hc hcl
  go_enter Tryz.func83, Tryz.ntmps83
  go_wp2_with fail
  go_ret
  exact ⟨none, 0, rfl, World.ownsRow_nil _ _ _ _, Fr.refl _ _⟩
 | some a =>
  have Hc := Lib.hid (hc a rfl)
  have H1 := Lib.hid h1
  have HL := Lib.hid hcl
  clear hc hn h1 hcl
  have e0 := fun (w : World) => Lib.run_eql_slice_nil (P := Tryz.prog) w 77 84 (some a) n cap 0 0 Tryz.underlying77
  go_enter Tryz.func83, Tryz.ntmps83
  go_wp2_with (at_builtin; refine wpList_append_own _ rfl _ _ 77 rfl w.heap.size 84 i0 (.agg #[.int .u8 0, .int .i64 0, .int .i64 0]) 3 24 Tryz.underlying77 hi hz0 hz1 hz2 rfl (by decide) _ 0 [] rfl (World.ownsRow_made _ #[] 0 (Nat.le_refl _) (by decide) rfl) a n cap cs rfl ?c1 ?c2 ?c3 ?c4 ?c5 ?c6 ?_)
  case c1 => exact HL.out
  case c2 => exact fun j u hu => ((Fr.refl w Nil).alloc _).cell (Hc.out j u hu) (fun h => h)
  case c3 => exact H1.out
  case c4 => unfold maxLen; omega
  case c5 => omega
  case c6 => simp
  intro v' w' ho hg _
  have Ho := Lib.hid ho
  have Hg := Lib.hid hg
  clear ho hg
  go_wp2
  go_ret
  have Hos : ∃ a c, v' = .slice a n c := by
   rcases Ho.out.2 with ⟨rfl, hn⟩ | ⟨g, cap, cur, rfl, _⟩
   ·exact ⟨none, 0, by rw [← hn]⟩
   ·exact ⟨_, cap, rfl⟩
  obtain ⟨a', c', rfl⟩ := Hos
  have ho2 := Ho.out
  refine ⟨a', c', rfl, ho2, ((Fr.refl w Nil).alloc _).grown Hg.out ?_⟩
  intro k hk hlt
  simp [Value.ownBlock] at hk
  omega
theorem Tryz.infoCV : (Tryz.prog.info? 77).map (fun i => (i.zero, i.size, i.bytes)) = some (some (.slice none 0 0), 1, 24) := by kernel_rfl
set_option maxRecDepth 100000 in
set_option maxHeartbeats 400000 in
theorem cloneV_any (v : Value) (n : Nat) (cs : List Value) (w : World) (h : CSl w 1 v n cs) (h1 : ∀ u ∈ cs, u.oneCell' = true) (hl : n ≤ 100000) :
  Calls Tryz.prog 84 #[v] w (CloneRet 77 1 n cs w) := by
 obtain ⟨i0, hi, hz0, hz1, hz2⟩ := info_parts Tryz.infoCV
 obtain ⟨hcl, a, cap, rfl, hn, hc⟩ := h
 cases a with
 | none =>
  obtain rfl := hn rfl
  obtain rfl : cs = [] := List.eq_nil_of_length_eq_zero (by omega)
  have e0 := fun (w : World) => Lib.run_eql_slice_nil (P := Tryz.prog) w 79 77 none 0 cap 0 0 Tryz.underlying79
  clear hn hc hcl
  go_enter Tryz.func84, Tryz.ntmps84
  go_wp2_with fail
  go_ret
  exact ⟨none, 0, rfl, World.ownsRow_nil _ _ _ _, Fr.refl _ _⟩
 | some a =>
  have Hc := Lib.hid (hc a rfl)
  have H1 := Lib.hid h1
  have HL := Lib.hid hcl
  clear hc hn h1 hcl
  have e0 := fun (w : World) => Lib.run_eql_slice_nil (P := Tryz.prog) w 79 77 (some a) n cap 0 0 Tryz.underlying79
  go_enter Tryz.func84, Tryz.ntmps84
  go_wp2_with (at_builtin; refine wpList_append_own _ rfl _ _ 79 rfl w.heap.size 77 i0 (.slice none 0 0) 1 24 Tryz.underlying79 hi hz0 hz1 hz2 rfl (by decide) _ 0 [] rfl (World.ownsRow_made _ #[] 0 (Nat.le_refl _) (by decide) rfl) a n cap cs rfl ?c1 ?c2 ?c3 ?c4 ?c5 ?c6 ?_)
  case c1 => exact HL.out
  case c2 => exact fun j u hu => ((Fr.refl w Nil).alloc _).cell (Hc.out j u hu) (fun h => h)
  case c3 => exact H1.out
  case c4 => unfold maxLen; omega
  case c5 => omega
  case c6 => simp
  intro v' w' ho hg _
  have Ho := Lib.hid ho
  have Hg := Lib.hid hg
  clear ho hg
  go_wp2
  go_ret
  have Hos : ∃ a c, v' = .slice a n c := by
   rcases Ho.out.2 with ⟨rfl, hn⟩ | ⟨g, cap, cur, rfl, _⟩
   ·exact ⟨none, 0, by rw [← hn]⟩
   ·exact ⟨_, cap, rfl⟩
  obtain ⟨a', c', rfl⟩ := Hos
  have ho2 := Ho.out
  refine ⟨a', c', rfl, ho2, ((Fr.refl w Nil).alloc _).grown Hg.out ?_⟩
  intro k hk hlt
  simp [Value.ownBlock] at hk
  omega
theorem Tryz.infoCN : (Tryz.prog.info? 3).map (fun i => (i.zero, i.size, i.bytes)) = some (some (.int .i64 0), 1, 8) := by kernel_rfl
set_option maxRecDepth 100000 in
set_option maxHeartbeats 400000 in
theorem cloneN_any (v : Value) (n : Nat) (cs : List Value) (w : World) (h : CSl w 1 v n cs) (h1 : ∀ u ∈ cs, u.oneCell' = true) (hl : n ≤ 100000) :
  Calls Tryz.prog 40 #[v] w (CloneRet 3 1 n cs w) := by
 obtain ⟨i0, hi, hz0, hz1, hz2⟩ := info_parts Tryz.infoCN
 obtain ⟨hcl, a, cap, rfl, hn, hc⟩ := h
 cases a with
 | none =>
  obtain rfl := hn rfl
  obtain rfl : cs = [] := List.eq_nil_of_length_eq_zero (by omega)
  have e0 := fun (w : World) => Lib.run_eql_slice_nil (P := Tryz.prog) w 23 3 none 0 cap 0 0 Tryz.underlying23
  clear hn hc hcl
  go_enter Tryz.func40, Tryz.ntmps40
  go_wp2_with fail
  go_ret
  exact ⟨none, 0, rfl, World.ownsRow_nil _ _ _ _, Fr.refl _ _⟩
 | some a =>
  have Hc := Lib.hid (hc a rfl)
  have H1 := Lib.hid h1
  have HL := Lib.hid hcl
  clear hc hn h1 hcl
  have e0 := fun (w : World) => Lib.run_eql_slice_nil (P := Tryz.prog) w 23 3 (some a) n cap 0 0 Tryz.underlying23
  go_enter Tryz.func40, Tryz.ntmps40
  go_wp2_with (at_builtin; refine wpList_append_own _ rfl _ _ 23 rfl w.heap.size 3 i0 (.int .i64 0) 1 8 Tryz.underlying23 hi hz0 hz1 hz2 rfl (by decide) _ 0 [] rfl (World.ownsRow_made _ #[] 0 (Nat.le_refl _) (by decide) rfl) a n cap cs rfl ?c1 ?c2 ?c3 ?c4 ?c5 ?c6 ?_)
  case c1 => exact HL.out
  case c2 => exact fun j u hu => ((Fr.refl w Nil).alloc _).cell (Hc.out j u hu) (fun h => h)
  case c3 => exact H1.out
  case c4 => unfold maxLen; omega
  case c5 => omega
  case c6 => simp
  intro v' w' ho hg _
  have Ho := Lib.hid ho
  have Hg := Lib.hid hg
  clear ho hg
  go_wp2
  go_ret
  have Hos : ∃ a c, v' = .slice a n c := by
   rcases Ho.out.2 with ⟨rfl, hn⟩ | ⟨g, cap, cur, rfl, _⟩
   ·exact ⟨none, 0, by rw [← hn]⟩
   ·exact ⟨_, cap, rfl⟩
  obtain ⟨a', c', rfl⟩ := Hos
  have ho2 := Ho.out
  refine ⟨a', c', rfl, ho2, ((Fr.refl w Nil).alloc _).grown Hg.out ?_⟩
  intro k hk hlt
  simp [Value.ownBlock] at hk
  omega
end Go.Proofs.YtgpekgnhbccnoaaGreat
namespace Go.Proofs.YtgpekgnhbccnoaaGreat
open Go Go.RowKit

/-- R holds as long as some blocks stay, all of them from B on, none of X. -/
def NewS (B : Nat) (X : Nat → Prop) (w : World) (R : World → Prop) : Prop := ∃ S : Nat → Prop, Stay w S R ∧ ∀ k, S k → B ≤ k ∧ k < w.heap.size ∧ ¬ X k
theorem NewS.fr {B : Nat} {X T : Nat → Prop} {w w' : World} {R : World → Prop} (h : NewS B X w R) (hf : Fr w w' T) (hd : ∀ k, B ≤ k → k < w.heap.size → ¬ X k → ¬ T k) : NewS B X w' R := by
 obtain ⟨S, h1, h2⟩ := h
 exact ⟨S, h1.fr hf fun k hk => hd k (h2 k hk).1 (h2 k hk).2.1 (h2 k hk).2.2, fun k hk => ⟨(h2 k hk).1, Nat.lt_of_lt_of_le (h2 k hk).2.1 hf.size, (h2 k hk).2.2⟩⟩
theorem NewS.fr0 {B : Nat} {X : Nat → Prop} {w w' : World} {R : World → Prop} (h : NewS B X w R) (hf : Fr w w' Nil) : NewS B X w' R := h.fr hf fun _ _ _ _ h => h
theorem NewS.imp {B : Nat} {X : Nat → Prop} {w : World} {R R' : World → Prop} (h : NewS B X w R) (hR : ∀ w, R w → R' w) : NewS B X w R' := by
 obtain ⟨S, h1, h2⟩ := h
 exact ⟨S, h1.imp hR, h2⟩
theorem NewS.weak {B : Nat} {X X' : Nat → Prop} {w : World} {R : World → Prop} (h : NewS B X w R) (hX : ∀ k, X' k → X k) : NewS B X' w R := by
 obtain ⟨S, h1, h2⟩ := h
 exact ⟨S, h1, fun k hk => ⟨(h2 k hk).1, (h2 k hk).2.1, fun h => (h2 k hk).2.2 (hX k h)⟩⟩
/-- All blocks from w's size on, when this began ahead of an excluded one. -/
theorem NewS.also {B : Nat} {X X' : Nat → Prop} {w : World} {R : World → Prop} (h : NewS B X w R) (hX : ∀ k, X' k → X k ∨ w.heap.size ≤ k) : NewS B X' w R := by
 obtain ⟨S, h1, h2⟩ := h
 refine ⟨S, h1, fun k hk => ⟨(h2 k hk).1, (h2 k hk).2.1, fun h => (hX k h).elim (h2 k hk).2.2 fun h3 => ?_⟩⟩
 have := (h2 k hk).2.1
 omega
theorem NewS.and {B : Nat} {X : Nat → Prop} {w : World} {R R' : World → Prop} (h : NewS B X w R) (h' : NewS B X w R') : NewS B X w (fun w => R w ∧ R' w) := by
 obtain ⟨S, h1, h2⟩ := h
 obtain ⟨S', h3, h4⟩ := h'
 exact ⟨fun k => S k ∨ S' k, (h1.mono fun k => .inl).and (h3.mono fun k => .inr), fun k hk => hk.elim (h2 k) (h4 k)⟩
theorem NewS.all {B : Nat} {X : Nat → Prop} {w : World} {α : Type} {p : α → Prop} {R : α → World → Prop} (h : ∀ x, p x → NewS B X w (R x)) : NewS B X w (fun w => ∀ x, p x → R x w) := by
 refine ⟨fun k => ∃ x, ∃ hx : p x, (h x hx).choose k, fun w' T hf hd x hx => ?_, fun k hk => ?_⟩
 ·exact (h x hx).choose_spec.1 w' T hf fun k hk => hd k ⟨x, hx, hk⟩
 ·obtain ⟨x, hx, hk⟩ := hk
  exact (h x hx).choose_spec.2 k hk
/-- A row of the call's own. -/
theorem NewS.own {B : Nat} {X : Nat → Prop} {w : World} {e : TypeId} {size n : Nat} {v : Value} {cs : List Value} (h : w.ownsRow B e size v n cs) (hX : ∀ k, v.ownBlock = some k → ¬ X k) : NewS B X w (fun w => w.ownsRow B e size v n cs) :=
 ⟨fun k => v.ownBlock = some k, fun _ _ hf hd => hf.own h hd, fun k hk => ⟨(World.ownsRow.lt h k hk).1, (World.ownsRow.lt h k hk).2, hX k hk⟩⟩
theorem NewS.terms {B : Nat} {X : Nat → Prop} {w : World} {e : TypeId} {v : Value} {l : List TermD} (h : w.ownsRow B e 3 v l.length (l.flatMap TermD.vals)) (hX : ∀ k, v.ownBlock = some k → ¬ X k) : NewS B X w (fun w => TermsAt w v l) :=
 (NewS.own h hX).imp fun _ h => (SlAt.of_own h).1
theorem own_in {B B' : Nat} {w : World} {e : TypeId} {size n : Nat} {v : Value} {cs : List Value} (h : w.ownsRow B e size v n cs) (hB : B' ≤ B) : w.ownsRow B' e size v n cs := own_mono h hB
end Go.Proofs.YtgpekgnhbccnoaaGreat
namespace Go.Proofs.YtgpekgnhbccnoaaGreat
open Go Go.RowKit

/-- The instruction without the fields that its kind has. -/
def bareI (n : InstrD) : InstrD where
 op := n.op
 node := 0
 mode := if n.op = 1 then 0 else n.mode
 tab := if n.op = 1 ∨ n.op = 2 ∨ n.op = 3 ∨ n.op = 4 ∨ n.op = 5 ∨ n.op = 6 ∨ n.op = 7 then 0 else n.tab
 row := if n.op = 1 ∨ n.op = 2 then false else n.row
 col := if n.op = 3 ∨ n.op = 4 ∨ n.op = 7 then 0 else n.col
 var := if n.op = 3 ∨ n.op = 7 ∨ n.op = 8 ∨ n.op = 12 ∨ n.op = 13 then 0 else n.var
 dst := if n.op = 10 ∨ n.op = 11 ∨ n.op = 12 ∨ n.op = 13 then 0 else n.dst
 eq := if n.op = 11 then false else n.eq
 fro := if n.op = 12 then 0 else n.fro
 upto := if n.op = 12 ∨ n.op = 13 then 0 else n.upto
 key := if n.op = 1 ∨ n.op = 2 ∨ n.op = 3 ∨ n.op = 4 ∨ n.op = 5 ∨ n.op = 6 then [] else n.key
 vals := if n.op = 4 ∨ n.op = 5 ∨ n.op = 8 ∨ n.op = 9 ∨ n.op = 11 then [] else n.vals
def hasKey (n : InstrD) : Prop := n.op = 1 ∨ n.op = 2 ∨ n.op = 3 ∨ n.op = 4 ∨ n.op = 5 ∨ n.op = 6
instance (n : InstrD) : Decidable (hasKey n) := by unfold hasKey; infer_instance
def hasVals (n : InstrD) : Prop := n.op = 4 ∨ n.op = 5 ∨ n.op = 8 ∨ n.op = 9 ∨ n.op = 11
instance (n : InstrD) : Decidable (hasVals n) := by unfold hasVals; infer_instance
theorem bare_iff {n : InstrD} (h1 : 1 ≤ n.op) (h2 : n.op ≤ 16) : BareP n ↔ (bareI n).mode = 0 ∧ (bareI n).tab = 0 ∧ (bareI n).row = false ∧ (bareI n).col = 0 ∧ (bareI n).var = 0 ∧ (bareI n).dst = 0 ∧ (bareI n).eq = false ∧ (bareI n).fro = 0 ∧ (bareI n).upto = 0 ∧ (bareI n).key = [] ∧ (bareI n).vals = [] := by
 obtain ⟨op, node, mode, tab, row, col, var, dst, eq, fro, upto, key, vals⟩ := n
 simp only at h1 h2
 obtain ⟨k, rfl⟩ : ∃ k : Nat, op = k := ⟨op.toNat, by omega⟩
 have h1 : 1 ≤ k := by omega
 have h2 : k ≤ 16 := by omega
 constructor
 ·rintro ⟨a1, a2, a3, a4, a5, a6, a7, a8, a9, a10, a11⟩
  simp only at a1 a2 a3 a4 a5 a6 a7 a8 a9 a10 a11
  unfold bareI
  simp only
  refine ⟨?_, ?_, ?_, ?_, ?_, ?_, ?_, ?_, ?_, ?_, ?_⟩
  all_goals split
  all_goals first | rfl | skip
  ·exact a1 (by omega)
  ·exact a2 (by omega)
  ·exact a3 (by omega)
  ·exact a4 (by omega)
  ·exact a5 (by omega)
  ·exact a6 (by omega)
  ·exact a7 (by omega)
  ·exact a8 (by omega)
  ·exact a9 (by omega)
  ·exact a10 (by omega)
  ·exact a11 (by omega)
 ·intro h
  unfold bareI at h
  simp only at h
  obtain ⟨a1, a2, a3, a4, a5, a6, a7, a8, a9, a10, a11⟩ := h
  refine ⟨?_, ?_, ?_, ?_, ?_, ?_, ?_, ?_, ?_, ?_, ?_⟩
  all_goals simp only
  all_goals intro hq
  ·rw [if_neg (by omega)] at a1; exact a1
  ·rw [if_neg (by omega)] at a2; exact a2
  ·rw [if_neg (by omega)] at a3; exact a3
  ·rw [if_neg (by omega)] at a4; exact a4
  ·rw [if_neg (by omega)] at a5; exact a5
  ·rw [if_neg (by omega)] at a6; exact a6
  ·rw [if_neg (by omega)] at a7; exact a7
  ·rw [if_neg (by omega)] at a8; exact a8
  ·rw [if_neg (by omega)] at a9; exact a9
  ·rw [if_neg (by omega)] at a10; exact a10
  ·rw [if_neg (by omega)] at a11; exact a11
/-- The key's slice and the values' behind it. -/
def bareK (n : InstrD) (kv : Value) : Value := if hasKey n then .slice none 0 0 else kv
def bareV (n : InstrD) (vv : Value) : Value := if hasVals n then .slice none 0 0 else vv
theorem TermsAt.nil (w : World) : TermsAt w (.slice none 0 0) [] := SlAt.nil w 3
theorem ValsAt.nil (w : World) : ValsAt w (.slice none 0 0) [] := ⟨none, 0, rfl, .inl rfl⟩
theorem bareK_at {w : World} {n : InstrD} {kv : Value} (h : TermsAt w kv n.key) : TermsAt w (bareK n kv) (bareI n).key := by
 unfold bareK
 show TermsAt w _ (if hasKey n then [] else n.key)
 split
 ·exact TermsAt.nil w
 ·exact h
theorem bareV_at {w : World} {n : InstrD} {vv : Value} (h : ValsAt w vv n.vals) : ValsAt w (bareV n vv) (bareI n).vals := by
 unfold bareV
 show ValsAt w _ (if hasVals n then [] else n.vals)
 split
 ·exact ValsAt.nil w
 ·exact h
def BareRet (n : InstrD) (kv vv : Value) (w : World) (e : Ending) (w' : World) : Prop := e = .returned ((bareI n).val (bareK n kv) (bareV n vv)) ∧ Fr w w' Nil
theorem bare_fr (w : World) (c1 c2 : Array Value) (t : TypeId) : Fr w ((w.alloc (.cells c1 t)).alloc (.cells c2 t)) Nil := ((Fr.refl w Nil).alloc _).alloc _
set_option maxRecDepth 100000 in
set_option maxHeartbeats 1000000 in
theorem bare_1 (n : InstrD) (ka va : Option Addr) (kn kc vn vc : Nat) (w : World) (h : n.op = 1) : Calls Tryz.prog 109 #[n.val (.slice ka kn kc) (.slice va vn vc)] w (BareRet n (.slice ka kn kc) (.slice va vn vc) w) := by
 obtain ⟨op, node, mode, tab, row, col, var, dst, eq, fro, upto, key, vals⟩ := n
 simp only at h
 subst h
 go_enter Tryz.func109, Tryz.ntmps109
 go_wp2_with fail
 exact bodyPost_ret (v := .agg #[.int .u8 1, .int .i64 0, .int .u8 0, .int .i64 0, .bool false, .int .i64 col, .int .i64 var, .int .i64 dst, .bool eq, .int .i64 fro, .int .i64 upto, .slice none 0 0, .slice va vn vc]) (by simp [results, Tryz.results109, go_sem]; try rfl) rfl ⟨rfl, bare_fr _ _ _ _⟩
set_option maxRecDepth 100000 in
set_option maxHeartbeats 1000000 in
theorem bare_2 (n : InstrD) (ka va : Option Addr) (kn kc vn vc : Nat) (w : World) (h : n.op = 2) : Calls Tryz.prog 109 #[n.val (.slice ka kn kc) (.slice va vn vc)] w (BareRet n (.slice ka kn kc) (.slice va vn vc) w) := by
 obtain ⟨op, node, mode, tab, row, col, var, dst, eq, fro, upto, key, vals⟩ := n
 simp only at h
 subst h
 go_enter Tryz.func109, Tryz.ntmps109
 go_wp2_with fail
 exact bodyPost_ret (v := .agg #[.int .u8 2, .int .i64 0, .int .u8 mode, .int .i64 0, .bool false, .int .i64 col, .int .i64 var, .int .i64 dst, .bool eq, .int .i64 fro, .int .i64 upto, .slice none 0 0, .slice va vn vc]) (by simp [results, Tryz.results109, go_sem]; try rfl) rfl ⟨rfl, bare_fr _ _ _ _⟩
set_option maxRecDepth 100000 in
set_option maxHeartbeats 1000000 in
theorem bare_3 (n : InstrD) (ka va : Option Addr) (kn kc vn vc : Nat) (w : World) (h : n.op = 3) : Calls Tryz.prog 109 #[n.val (.slice ka kn kc) (.slice va vn vc)] w (BareRet n (.slice ka kn kc) (.slice va vn vc) w) := by
 obtain ⟨op, node, mode, tab, row, col, var, dst, eq, fro, upto, key, vals⟩ := n
 simp only at h
 subst h
 go_enter Tryz.func109, Tryz.ntmps109
 go_wp2_with fail
 exact bodyPost_ret (v := .agg #[.int .u8 3, .int .i64 0, .int .u8 mode, .int .i64 0, .bool row, .int .i64 0, .int .i64 0, .int .i64 dst, .bool eq, .int .i64 fro, .int .i64 upto, .slice none 0 0, .slice va vn vc]) (by simp [results, Tryz.results109, go_sem]; try rfl) rfl ⟨rfl, bare_fr _ _ _ _⟩
set_option maxRecDepth 100000 in
set_option maxHeartbeats 1000000 in
theorem bare_4 (n : InstrD) (ka va : Option Addr) (kn kc vn vc : Nat) (w : World) (h : n.op = 4) : Calls Tryz.prog 109 #[n.val (.slice ka kn kc) (.slice va vn vc)] w (BareRet n (.slice ka kn kc) (.slice va vn vc) w) := by
 obtain ⟨op, node, mode, tab, row, col, var, dst, eq, fro, upto, key, vals⟩ := n
 simp only at h
 subst h
 go_enter Tryz.func109, Tryz.ntmps109
 go_wp2_with fail
 exact bodyPost_ret (v := .agg #[.int .u8 4, .int .i64 0, .int .u8 mode, .int .i64 0, .bool row, .int .i64 0, .int .i64 var, .int .i64 dst, .bool eq, .int .i64 fro, .int .i64 upto, .slice none 0 0, .slice none 0 0]) (by simp [results, Tryz.results109, go_sem]; try rfl) rfl ⟨rfl, bare_fr _ _ _ _⟩
set_option maxRecDepth 100000 in
set_option maxHeartbeats 1000000 in
theorem bare_5 (n : InstrD) (ka va : Option Addr) (kn kc vn vc : Nat) (w : World) (h : n.op = 5) : Calls Tryz.prog 109 #[n.val (.slice ka kn kc) (.slice va vn vc)] w (BareRet n (.slice ka kn kc) (.slice va vn vc) w) := by
 obtain ⟨op, node, mode, tab, row, col, var, dst, eq, fro, upto, key, vals⟩ := n
 simp only at h
 subst h
 go_enter Tryz.func109, Tryz.ntmps109
 go_wp2_with fail
 exact bodyPost_ret (v := .agg #[.int .u8 5, .int .i64 0, .int .u8 mode, .int .i64 0, .bool row, .int .i64 col, .int .i64 var, .int .i64 dst, .bool eq, .int .i64 fro, .int .i64 upto, .slice none 0 0, .slice none 0 0]) (by simp [results, Tryz.results109, go_sem]; try rfl) rfl ⟨rfl, bare_fr _ _ _ _⟩
set_option maxRecDepth 100000 in
set_option maxHeartbeats 1000000 in
theorem bare_6 (n : InstrD) (ka va : Option Addr) (kn kc vn vc : Nat) (w : World) (h : n.op = 6) : Calls Tryz.prog 109 #[n.val (.slice ka kn kc) (.slice va vn vc)] w (BareRet n (.slice ka kn kc) (.slice va vn vc) w) := by
 obtain ⟨op, node, mode, tab, row, col, var, dst, eq, fro, upto, key, vals⟩ := n
 simp only at h
 subst h
 go_enter Tryz.func109, Tryz.ntmps109
 go_wp2_with fail
 exact bodyPost_ret (v := .agg #[.int .u8 6, .int .i64 0, .int .u8 mode, .int .i64 0, .bool row, .int .i64 col, .int .i64 var, .int .i64 dst, .bool eq, .int .i64 fro, .int .i64 upto, .slice none 0 0, .slice va vn vc]) (by simp [results, Tryz.results109, go_sem]; try rfl) rfl ⟨rfl, bare_fr _ _ _ _⟩
set_option maxRecDepth 100000 in
set_option maxHeartbeats 1000000 in
theorem bare_7 (n : InstrD) (ka va : Option Addr) (kn kc vn vc : Nat) (w : World) (h : n.op = 7) : Calls Tryz.prog 109 #[n.val (.slice ka kn kc) (.slice va vn vc)] w (BareRet n (.slice ka kn kc) (.slice va vn vc) w) := by
 obtain ⟨op, node, mode, tab, row, col, var, dst, eq, fro, upto, key, vals⟩ := n
 simp only at h
 subst h
 go_enter Tryz.func109, Tryz.ntmps109
 go_wp2_with fail
 exact bodyPost_ret (v := .agg #[.int .u8 7, .int .i64 0, .int .u8 mode, .int .i64 0, .bool row, .int .i64 0, .int .i64 0, .int .i64 dst, .bool eq, .int .i64 fro, .int .i64 upto, .slice ka kn kc, .slice va vn vc]) (by simp [results, Tryz.results109, go_sem]; try rfl) rfl ⟨rfl, bare_fr _ _ _ _⟩
set_option maxRecDepth 100000 in
set_option maxHeartbeats 1000000 in
theorem bare_8 (n : InstrD) (ka va : Option Addr) (kn kc vn vc : Nat) (w : World) (h : n.op = 8) : Calls Tryz.prog 109 #[n.val (.slice ka kn kc) (.slice va vn vc)] w (BareRet n (.slice ka kn kc) (.slice va vn vc) w) := by
 obtain ⟨op, node, mode, tab, row, col, var, dst, eq, fro, upto, key, vals⟩ := n
 simp only at h
 subst h
 go_enter Tryz.func109, Tryz.ntmps109
 go_wp2_with fail
 exact bodyPost_ret (v := .agg #[.int .u8 8, .int .i64 0, .int .u8 mode, .int .i64 tab, .bool row, .int .i64 col, .int .i64 0, .int .i64 dst, .bool eq, .int .i64 fro, .int .i64 upto, .slice ka kn kc, .slice none 0 0]) (by simp [results, Tryz.results109, go_sem]; try rfl) rfl ⟨rfl, bare_fr _ _ _ _⟩
set_option maxRecDepth 100000 in
set_option maxHeartbeats 1000000 in
theorem bare_9 (n : InstrD) (ka va : Option Addr) (kn kc vn vc : Nat) (w : World) (h : n.op = 9) : Calls Tryz.prog 109 #[n.val (.slice ka kn kc) (.slice va vn vc)] w (BareRet n (.slice ka kn kc) (.slice va vn vc) w) := by
 obtain ⟨op, node, mode, tab, row, col, var, dst, eq, fro, upto, key, vals⟩ := n
 simp only at h
 subst h
 go_enter Tryz.func109, Tryz.ntmps109
 go_wp2_with fail
 exact bodyPost_ret (v := .agg #[.int .u8 9, .int .i64 0, .int .u8 mode, .int .i64 tab, .bool row, .int .i64 col, .int .i64 var, .int .i64 dst, .bool eq, .int .i64 fro, .int .i64 upto, .slice ka kn kc, .slice none 0 0]) (by simp [results, Tryz.results109, go_sem]; try rfl) rfl ⟨rfl, bare_fr _ _ _ _⟩
set_option maxRecDepth 100000 in
set_option maxHeartbeats 1000000 in
theorem bare_10 (n : InstrD) (ka va : Option Addr) (kn kc vn vc : Nat) (w : World) (h : n.op = 10) : Calls Tryz.prog 109 #[n.val (.slice ka kn kc) (.slice va vn vc)] w (BareRet n (.slice ka kn kc) (.slice va vn vc) w) := by
 obtain ⟨op, node, mode, tab, row, col, var, dst, eq, fro, upto, key, vals⟩ := n
 simp only at h
 subst h
 go_enter Tryz.func109, Tryz.ntmps109
 go_wp2_with fail
 exact bodyPost_ret (v := .agg #[.int .u8 10, .int .i64 0, .int .u8 mode, .int .i64 tab, .bool row, .int .i64 col, .int .i64 var, .int .i64 0, .bool eq, .int .i64 fro, .int .i64 upto, .slice ka kn kc, .slice va vn vc]) (by simp [results, Tryz.results109, go_sem]; try rfl) rfl ⟨rfl, bare_fr _ _ _ _⟩
set_option maxRecDepth 100000 in
set_option maxHeartbeats 1000000 in
theorem bare_11 (n : InstrD) (ka va : Option Addr) (kn kc vn vc : Nat) (w : World) (h : n.op = 11) : Calls Tryz.prog 109 #[n.val (.slice ka kn kc) (.slice va vn vc)] w (BareRet n (.slice ka kn kc) (.slice va vn vc) w) := by
 obtain ⟨op, node, mode, tab, row, col, var, dst, eq, fro, upto, key, vals⟩ := n
 simp only at h
 subst h
 go_enter Tryz.func109, Tryz.ntmps109
 go_wp2_with fail
 exact bodyPost_ret (v := .agg #[.int .u8 11, .int .i64 0, .int .u8 mode, .int .i64 tab, .bool row, .int .i64 col, .int .i64 var, .int .i64 0, .bool false, .int .i64 fro, .int .i64 upto, .slice ka kn kc, .slice none 0 0]) (by simp [results, Tryz.results109, go_sem]; try rfl) rfl ⟨rfl, bare_fr _ _ _ _⟩
set_option maxRecDepth 100000 in
set_option maxHeartbeats 1000000 in
theorem bare_12 (n : InstrD) (ka va : Option Addr) (kn kc vn vc : Nat) (w : World) (h : n.op = 12) : Calls Tryz.prog 109 #[n.val (.slice ka kn kc) (.slice va vn vc)] w (BareRet n (.slice ka kn kc) (.slice va vn vc) w) := by
 obtain ⟨op, node, mode, tab, row, col, var, dst, eq, fro, upto, key, vals⟩ := n
 simp only at h
 subst h
 go_enter Tryz.func109, Tryz.ntmps109
 go_wp2_with fail
 exact bodyPost_ret (v := .agg #[.int .u8 12, .int .i64 0, .int .u8 mode, .int .i64 tab, .bool row, .int .i64 col, .int .i64 0, .int .i64 0, .bool eq, .int .i64 0, .int .i64 0, .slice ka kn kc, .slice va vn vc]) (by simp [results, Tryz.results109, go_sem]; try rfl) rfl ⟨rfl, bare_fr _ _ _ _⟩
set_option maxRecDepth 100000 in
set_option maxHeartbeats 1000000 in
theorem bare_13 (n : InstrD) (ka va : Option Addr) (kn kc vn vc : Nat) (w : World) (h : n.op = 13) : Calls Tryz.prog 109 #[n.val (.slice ka kn kc) (.slice va vn vc)] w (BareRet n (.slice ka kn kc) (.slice va vn vc) w) := by
 obtain ⟨op, node, mode, tab, row, col, var, dst, eq, fro, upto, key, vals⟩ := n
 simp only at h
 subst h
 go_enter Tryz.func109, Tryz.ntmps109
 go_wp2_with fail
 exact bodyPost_ret (v := .agg #[.int .u8 13, .int .i64 0, .int .u8 mode, .int .i64 tab, .bool row, .int .i64 col, .int .i64 0, .int .i64 0, .bool eq, .int .i64 fro, .int .i64 0, .slice ka kn kc, .slice va vn vc]) (by simp [results, Tryz.results109, go_sem]; try rfl) rfl ⟨rfl, bare_fr _ _ _ _⟩
set_option maxRecDepth 100000 in
set_option maxHeartbeats 1000000 in
theorem bare_14 (n : InstrD) (ka va : Option Addr) (kn kc vn vc : Nat) (w : World) (h : n.op = 14) : Calls Tryz.prog 109 #[n.val (.slice ka kn kc) (.slice va vn vc)] w (BareRet n (.slice ka kn kc) (.slice va vn vc) w) := by
 obtain ⟨op, node, mode, tab, row, col, var, dst, eq, fro, upto, key, vals⟩ := n
 simp only at h
 subst h
 go_enter Tryz.func109, Tryz.ntmps109
 go_wp2_with fail
 exact bodyPost_ret (v := .agg #[.int .u8 14, .int .i64 0, .int .u8 mode, .int .i64 tab, .bool row, .int .i64 col, .int .i64 var, .int .i64 dst, .bool eq, .int .i64 fro, .int .i64 upto, .slice ka kn kc, .slice va vn vc]) (by simp [results, Tryz.results109, go_sem]; try rfl) rfl ⟨rfl, bare_fr _ _ _ _⟩
set_option maxRecDepth 100000 in
set_option maxHeartbeats 1000000 in
theorem bare_15 (n : InstrD) (ka va : Option Addr) (kn kc vn vc : Nat) (w : World) (h : n.op = 15) : Calls Tryz.prog 109 #[n.val (.slice ka kn kc) (.slice va vn vc)] w (BareRet n (.slice ka kn kc) (.slice va vn vc) w) := by
 obtain ⟨op, node, mode, tab, row, col, var, dst, eq, fro, upto, key, vals⟩ := n
 simp only at h
 subst h
 go_enter Tryz.func109, Tryz.ntmps109
 go_wp2_with fail
 exact bodyPost_ret (v := .agg #[.int .u8 15, .int .i64 0, .int .u8 mode, .int .i64 tab, .bool row, .int .i64 col, .int .i64 var, .int .i64 dst, .bool eq, .int .i64 fro, .int .i64 upto, .slice ka kn kc, .slice va vn vc]) (by simp [results, Tryz.results109, go_sem]; try rfl) rfl ⟨rfl, bare_fr _ _ _ _⟩
set_option maxRecDepth 100000 in
set_option maxHeartbeats 1000000 in
theorem bare_16 (n : InstrD) (ka va : Option Addr) (kn kc vn vc : Nat) (w : World) (h : n.op = 16) : Calls Tryz.prog 109 #[n.val (.slice ka kn kc) (.slice va vn vc)] w (BareRet n (.slice ka kn kc) (.slice va vn vc) w) := by
 obtain ⟨op, node, mode, tab, row, col, var, dst, eq, fro, upto, key, vals⟩ := n
 simp only at h
 subst h
 go_enter Tryz.func109, Tryz.ntmps109
 go_wp2_with fail
 exact bodyPost_ret (v := .agg #[.int .u8 16, .int .i64 0, .int .u8 mode, .int .i64 tab, .bool row, .int .i64 col, .int .i64 var, .int .i64 dst, .bool eq, .int .i64 fro, .int .i64 upto, .slice ka kn kc, .slice va vn vc]) (by simp [results, Tryz.results109, go_sem]; try rfl) rfl ⟨rfl, bare_fr _ _ _ _⟩
theorem bare_any (n : InstrD) (kv vv : Value) (w : World) (h1 : 1 ≤ n.op) (h2 : n.op ≤ 16) (hk : TermsAt w kv n.key) (hv : ValsAt w vv n.vals) : Calls Tryz.prog 109 #[n.val kv vv] w (BareRet n kv vv w) := by
 obtain ⟨ka, kc, rfl⟩ := hk.shape
 obtain ⟨va, vc, rfl⟩ := hv.shape
 generalize n.key.length = kn
 generalize n.vals.length = vn
 clear hk hv
 by_cases e1 : n.op = 1
 ·exact bare_1 n ka va kn kc vn vc w e1
 by_cases e2 : n.op = 2
 ·exact bare_2 n ka va kn kc vn vc w e2
 by_cases e3 : n.op = 3
 ·exact bare_3 n ka va kn kc vn vc w e3
 by_cases e4 : n.op = 4
 ·exact bare_4 n ka va kn kc vn vc w e4
 by_cases e5 : n.op = 5
 ·exact bare_5 n ka va kn kc vn vc w e5
 by_cases e6 : n.op = 6
 ·exact bare_6 n ka va kn kc vn vc w e6
 by_cases e7 : n.op = 7
 ·exact bare_7 n ka va kn kc vn vc w e7
 by_cases e8 : n.op = 8
 ·exact bare_8 n ka va kn kc vn vc w e8
 by_cases e9 : n.op = 9
 ·exact bare_9 n ka va kn kc vn vc w e9
 by_cases e10 : n.op = 10
 ·exact bare_10 n ka va kn kc vn vc w e10
 by_cases e11 : n.op = 11
 ·exact bare_11 n ka va kn kc vn vc w e11
 by_cases e12 : n.op = 12
 ·exact bare_12 n ka va kn kc vn vc w e12
 by_cases e13 : n.op = 13
 ·exact bare_13 n ka va kn kc vn vc w e13
 by_cases e14 : n.op = 14
 ·exact bare_14 n ka va kn kc vn vc w e14
 by_cases e15 : n.op = 15
 ·exact bare_15 n ka va kn kc vn vc w e15
 by_cases e16 : n.op = 16
 ·exact bare_16 n ka va kn kc vn vc w e16
 omega
end Go.Proofs.YtgpekgnhbccnoaaGreat
namespace Go.Proofs.YtgpekgnhbccnoaaGreat
open Go Go.RowKit
attribute [local go_sem ↓] Go.wp_at_zero Go.wp_at_succ

set_option maxRecDepth 100000 in
set_option maxHeartbeats 400000 in
theorem equalT_nil (a : Option Addr) (n c : Nat) (w : World) :
  Calls Tryz.prog 128 #[.slice a n c, .slice none 0 0] w fun e w' => e = .returned (.bool (decide (n = 0))) ∧ w = w' := by
 by_cases h : n = 0
 ·subst h
  go_enter Tryz.func128, Tryz.ntmps128
  go_wp2_with fail
  go_loop [13] (fun vi => vi = .int .i64 0) (fun _ => 0)
  case atStart => rfl
  case round =>
   subst hrel
   go_wp2_with fail
   go_ret
   exact ⟨rfl, rfl⟩
 ·have h1 : ((n : Int) != 0) = true := by rw [bne_iff_ne]; omega
  have HD := Lib.hid (decide_eq_false h)
  clear h
  go_enter Tryz.func128, Tryz.ntmps128
  go_wp2_with fail
  go_ret
  exact ⟨by rw [HD.out]; rfl, rfl⟩
set_option maxRecDepth 100000 in
set_option maxHeartbeats 400000 in
theorem eqfT_nil (a : Option Addr) (n c : Nat) (w : World) :
  Calls Tryz.prog 131 #[.slice a n c, .slice none 0 0, .func (.func 127) #[] #[]] w fun e w' => e = .returned (.bool (decide (n = 0))) ∧ w = w' := by
 by_cases h : n = 0
 ·subst h
  go_enter Tryz.func131, Tryz.ntmps131
  go_wp2_with fail
  go_loop [17] (fun vi => vi = .int .i64 0) (fun _ => 0)
  case atStart => rfl
  case round =>
   subst hrel
   go_wp2_with fail
   go_ret
   exact ⟨rfl, rfl⟩
 ·have h1 : ((n : Int) != 0) = true := by rw [bne_iff_ne]; omega
  have HD := Lib.hid (decide_eq_false h)
  clear h
  go_enter Tryz.func131, Tryz.ntmps131
  go_wp2_with fail
  go_ret
  exact ⟨by rw [HD.out]; rfl, rfl⟩
set_option maxRecDepth 100000 in
set_option maxHeartbeats 400000 in
theorem csame1_nil (a : Option Addr) (n c : Nat) (w : World) (b : Bool) (h : decide (n = 0) = b) :
  Calls Tryz.prog 127 #[.slice a n c, .slice none 0 0] w fun e w' => e = .returned (.bool b) ∧ w = w' := by
 have H := Lib.hid h
 clear h
 go_enter Tryz.func127, Tryz.ntmps127
 go_wp2_with fail
 refine (equalT_nil a n c w).mono ?_
 rintro e w2 ⟨he, rfl⟩
 rw [H.out] at he
 subst he
 go_wp2_with fail
 go_ret
 exact ⟨rfl, rfl⟩
end Go.Proofs.YtgpekgnhbccnoaaGreat
