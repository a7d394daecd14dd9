/-
 Walk of New: a state at the first instruction.
 No condition but sizes.
 Walks of value, Next, At, Vars, Out, Go of a state.
 No condition but sizes.
 Walk of Next: what the next one is.
 No condition but sizes.
 Walk of Go.
 No condition but sizes.
 Walk of sameInts.
 No condition but sizes.
-/
import Derived.Test.YtgpekgnhbccnoaaGreatPkY22
import Derived.Laws.CopyOwn
import Derived.Test.YtgpekgnhbccnoaaGreatPkY1
import Derived.Deep.Cut
import Derived.Deep.CutRange
import Derived.BigQuiet
import Derived.Deep.QuietTactic
namespace Go.Proofs.YtgpekgnhbccnoaaGreat
open Go Go.RowKit
attribute [local go_sem ↓] Go.wp_at_zero Go.wp_at_succ

/-- make([]int64, n). -/
theorem wp_makeI {o : Oper} {a : Act} {w : World} {K : Act → World → Prop} {Q : Exit → Act → World → Prop} (t1 t2 : Operand) (ho : o.op = .makeSlice 24 t1 t2) (n : Nat) (h1 : a.eval t1 = .int .i64 n) (h2 : a.eval t2 = .int .i64 n) (hn : n ≤ 1000000)
  (h : ∀ w', w'.ownsRow w.heap.size 2 1 (.slice (some ⟨w.heap.size, 0, none⟩) n n) n ((List.replicate n (0 : Int)).map (Value.int .i64)) → Fr w w' Nil → K (a.put o.dst (.slice (some ⟨w.heap.size, 0, none⟩) n n)) w') : o.wp Tryz.prog a w K Q := by
 obtain ⟨ib, hib, hz0, hz1, hz2⟩ := info_parts (P := Tryz.prog) (e := 2) (z := .int .i64 0) (size := 1) (bytes := 8) (by kernel_rfl)
 obtain ⟨w', hr, hown, hg⟩ := run_make_full (P := Tryz.prog) w w.heap.size 24 2 ib (.int .i64 0) 1 Tryz.underlying24 hib hz0 hz1 .i64 .i64 n (by rw [hz2]; omega) (by unfold maxLen; omega) (Nat.le_refl _)
 have e : (madeCells (Value.int .i64 0).cells (n * 1)).toList = (List.replicate n (0 : Int)).map (Value.int .i64) := by
  rw [Nat.mul_one, List.map_replicate]
  exact toList_madeCells_one _ _
 rw [e] at hown
 unfold Oper.wp execOp
 simp only [ho, h1, h2, Sem.run_bind, Sem.run_pure, Result.andThen_ok, hr]
 exact h w' hown ((Fr.refl w Nil).grown hg fun k hk => by cases hk)
/-- A new state's variables. -/
def vars0 (nv : Nat) (args : List Int) : List Int := args ++ List.replicate (nv - args.length) 0
def RNewSt (TB : List Int) (nv : Int) (L : List InstrD) (args : List Int) (w : World) (e : Ending) (w' : World) : Prop :=
 (RightP TB nv L ∧ (args.length : Int) ≤ nv ∧ ∃ (q : StV) (C : Nat → Prop), e = .returned (.tuple #[.pointer (some ⟨q.sb, 0, none⟩), .int .i64 0]) ∧ StAt w' q C ∧ (∀ k, q.has C k → w.heap.size ≤ k) ∧ q.L = L ∧ q.TB = TB ∧ q.at' = 0 ∧ q.vars = vars0 nv.toNat args ∧ q.out = [] ∧ Fr w w' Nil) ∨
 (¬ (RightP TB nv L ∧ (args.length : Int) ≤ nv) ∧ e = .returned (.tuple #[.pointer none, .int .i64 2]) ∧ Fr w w' Nil)
theorem ints_one' (xs : List Int) : ∀ u ∈ xs.map (Value.int .i64), u.oneCell' = true := fun u hu => by
 simp only [List.mem_map] at hu
 obtain ⟨z, _, rfl⟩ := hu
 rfl
theorem NewS.low {B B' : Nat} {X : Nat → Prop} {w : World} {R : World → Prop} (h : NewS B X w R) (hB : B' ≤ B) : NewS B' X w R := by
 obtain ⟨S, h1, h2⟩ := h
 exact ⟨S, h1, fun k hk => ⟨Nat.le_trans hB (h2 k hk).1, (h2 k hk).2⟩⟩
theorem NewS.above {B : Nat} {X X' : Nat → Prop} {w : World} {R : World → Prop} (h : NewS B X w R) (hX : ∀ k, X' k → k < B) : NewS B X' w R := by
 obtain ⟨S, h1, h2⟩ := h
 exact ⟨S, h1, fun k hk => ⟨(h2 k hk).1, (h2 k hk).2.1, fun h => by have := hX k h; have := (h2 k hk).1; omega⟩⟩
theorem own_full {w : World} {base : Nat} {e : TypeId} {g n : Nat} {xs : List Value} (h : w.ownsRow base e 1 (.slice (some ⟨g, 0, none⟩) n n) n xs) : Bk w g e xs := by
 rcases h.2 with ⟨h', _⟩ | ⟨g', cap', cur, h', _, hg, _, _, hs, ht⟩
 ·cases h'
 ·simp only [Value.slice.injEq, Option.some.injEq, Addr.mk.injEq, and_true, true_and] at h'
  obtain ⟨rfl, rfl⟩ := h'
  unfold Bk
  rw [← ht, List.take_of_length_le (by simp; omega)]
  exact hg
theorem vars0_nil (nv : Nat) : vars0 nv [] = List.replicate nv 0 := by simp [vars0]
theorem vars0_len (nv : Nat) (args : List Int) (h : args.length ≤ nv) : (vars0 nv args).length = nv := by simp [vars0]; omega
/-- copy(vars, args). -/
theorem wpList_copyI {ops : Array Oper} {rest : List Oper} {o : Oper} {a : Act} {w : World} {Q : Exit → Act → World → Prop} (hgd : o.guard = none) (d s : Operand) (ho : o.op = .call { callee := .builtin .copy, args := #[d, s], argTypes := #[24, 24] })
  (vb nv : Nat) (av : Value) (args : List Int) (hd : a.eval d = .slice (some ⟨vb, 0, none⟩) nv nv) (hs : a.eval s = av) (hb : Bk w vb 2 ((List.replicate nv (0 : Int)).map (Value.int .i64))) (ha : IntsAt w av args) (hl : args.length ≤ nv)
  (h : ∀ w', Bk w' vb 2 ((vars0 nv args).map (Value.int .i64)) → w.grownBy w' (some vb) → wpList Tryz.prog ops Q rest (a.put o.dst (goInt args.length)) w') : wpList Tryz.prog ops Q (o :: rest) a w := by
 obtain ⟨ib, hib, hz0, hz1, hz2⟩ := info_parts (P := Tryz.prog) (e := 2) (z := .int .i64 0) (size := 1) (bytes := 8) (by kernel_rfl)
 rcases Nat.eq_zero_or_pos args.length with h0 | h0
 ·obtain rfl := List.eq_nil_of_length_eq_zero h0
  obtain ⟨aa, ac, rfl⟩ := ha.shape
  refine wpList_copy_nothing hgd d s _ _ ho 2 Tryz.underlying24 (by rw [hib]; simp [hz1]) _ _ _ _ _ _ hd hs (by simp) (h w (by rw [vars0_nil]; exact hb) ⟨rfl, rfl, rfl, Nat.le_refl _, fun _ _ _ => rfl⟩)
 ·rcases ha with ⟨_, rfl⟩ | ⟨ad, cap, rfl, hc⟩
  ·simp at h0
  ·obtain ⟨w', hr, hb', hg⟩ := run_copy_bk (P := Tryz.prog) 24 24 o.type 2 ib Tryz.underlying24 hib vb 0 nv nv ad args.length cap args.length hb (args.map (Value.int .i64)) (Nat.min_eq_left hl) (by rw [List.length_map, hz1, Nat.mul_one]) hc (by simp; omega) (ints_one' args)
   refine wpList_plain hgd fun K hK => ?_
   unfold Oper.wp
   simp [execOp, ho, resolve, invoke, builtin, hd, hs, hr, Result.andThen]
   refine hK _ _ (h w' ?_ hg)
   have e : ((List.replicate nv (0 : Int)).map (Value.int .i64)).take 0 ++ args.map (Value.int .i64) ++ ((List.replicate nv (0 : Int)).map (Value.int .i64)).drop (0 + (args.map (Value.int .i64)).length) = (vars0 nv args).map (Value.int .i64) := by
    simp [vars0]
   rw [e] at hb'
   exact hb'
/-- All but the copy is laid. -/
structure NJ (w W : World) (vb nv : Nat) (L : List InstrD) (TB : List Int) (a3 : Option Addr) (c3 : Nat) (a4 : Option Addr) (c4 : Nat) : Prop where
 code : NewS w.heap.size (fun k => k = vb) W (fun w => CodeAt w (.slice a3 L.length c3) L)
 tabs : W.ownsRow w.heap.size 3 1 (.slice a4 TB.length c4) TB.length (TB.map (Value.int .i64))
 tne : (Value.slice a4 TB.length c4).ownBlock ≠ some vb
 vars : W.ownsRow w.heap.size 2 1 (.slice (some ⟨vb, 0, none⟩) nv nv) nv ((List.replicate nv (0 : Int)).map (Value.int .i64))
 fr : Fr w W Nil
theorem NJ.state {w W w7 : World} {vb nv : Nat} {L : List InstrD} {TB args : List Int} {a3 a4 : Option Addr} {c3 c4 : Nat} (h : NJ w W vb nv L TB a3 c3 a4 c4) (hl : args.length ≤ nv) (hm : nv ≤ 1000000)
  (hb : Bk w7 vb 2 ((vars0 nv args).map (Value.int .i64))) (hg : (W.alloc (.cells #[.slice a3 L.length c3, .slice a4 TB.length c4, .int .i64 0, .slice (some ⟨vb, 0, none⟩) nv nv, .slice none 0 0] 91)).grownBy w7 (some vb)) :
  ∃ C, StAt w7 ⟨W.heap.size, .slice a3 L.length c3, .slice a4 TB.length c4, .slice (some ⟨vb, 0, none⟩) nv nv, .slice none 0 0, L, TB, 0, vars0 nv args, []⟩ C ∧ (∀ k, (⟨W.heap.size, .slice a3 L.length c3, .slice a4 TB.length c4, .slice (some ⟨vb, 0, none⟩) nv nv, .slice none 0 0, L, TB, 0, vars0 nv args, []⟩ : StV).has C k → w.heap.size ≤ k) ∧ Fr w w7 Nil := by
 obtain ⟨Sc, hst, hin⟩ := h.code
 have hvb := World.ownsRow.lt h.vars vb rfl
 have hsz := h.fr.size
 have hB := Bk.new W 91 #[.slice a3 L.length c3, .slice a4 TB.length c4, .int .i64 0, .slice (some ⟨vb, 0, none⟩) nv nv, .slice none 0 0]
 have hf1 : Fr W w7 (fun k => k = vb) := ((Fr.refl W _).alloc _).grown hg fun k hk _ => by cases hk; rfl
 have hf2 : Fr _ w7 (fun k => k = vb) := (Fr.refl _ _).grown hg fun k hk _ => by cases hk; rfl
 have htl : ∀ k, (Value.slice a4 TB.length c4).ownBlock = some k → w.heap.size ≤ k ∧ k < W.heap.size ∧ k ≠ vb := fun k hk => ⟨(World.ownsRow.lt h.tabs k hk).1, (World.ownsRow.lt h.tabs k hk).2, fun e => h.tne (by rw [← e]; exact hk)⟩
 refine ⟨fun k => Sc k ∨ (Value.slice a4 TB.length c4).ownBlock = some k, ⟨hB.fr hf2 (by omega), ?_, World.ownsRow_nil _ _ _ _, (hst.mono fun k => .inl).fr hf1 fun k hk e => hk.elim (fun q => (hin k q).2.2 e) (fun q => (htl k q).2.2 e), ?_, fun k hk => ?_, ?_, fun k hk => ?_, fun k hk => by simp [Value.ownBlock] at hk⟩, fun k hk => ?_, h.fr.trans hf1 fun k hk e => by omega⟩
 ·show OwnInts _ _ _ _
  unfold OwnInts
  rw [vars0_len nv args hl]
  have hbl := hb
  refine ⟨by simp [vars0_len nv args hl], .inr ⟨vb, nv, ((vars0 nv args).map (Value.int .i64)).toArray, rfl, Nat.zero_le _, hbl, Nat.le_refl _, by unfold maxLen; omega, by simp [vars0_len nv args hl], ?_⟩⟩
  rw [List.take_of_length_le (by simp [vars0_len nv args hl])]
 ·intro w' T hf hd
  refine IntsAt.fr (SlAt.ints (SlAt.of_own (Fr.own hf1 h.tabs fun k hk e => (htl k hk).2.2 e)).1) hf fun k hk => hd k (.inr hk)
 ·have hs7 := hf1.size
  exact hk.elim (fun q => by have := (hin k q).2.1; show k < w7.heap.size; omega) (fun q => by have := (htl k q).2.1; show k < w7.heap.size; omega)
 ·rintro (q | q)
  ·have := (hin _ q).2.1; simp at this
  ·have := (htl _ q).2.1; simp at this
 ·have hk2 : vb = k := by simpa [Value.ownBlock] using hk
  subst hk2
  refine ⟨?_, ?_, by simp [Value.ownBlock]⟩
  ·rintro (q | q)
   ·exact (hin vb q).2.2 rfl
   ·exact (htl vb q).2.2 rfl
  ·show vb ≠ W.heap.size; omega
 ·rcases hk with rfl | hk | hk | hk | hk
  ·exact hsz
  ·have hk2 : vb = k := by simpa [Value.ownBlock] using hk
   omega
  ·simp [Value.ownBlock] at hk
  ·exact (hin k hk).1
  ·exact (htl k hk).1
set_option maxRecDepth 100000 in
set_option maxHeartbeats 400000 in
theorem new_not (lv tv av : Value) (TB args : List Int) (nv : Int) (L : List InstrD) (w : World) (h : CodeAt w lv L) (hcap : CapOk lv) (ht : IntsAt w tv TB) (ha : IntsAt w av args) (hf : FewC L) (hnv : nv ≤ 1000000) (hTB : TB.length ≤ 1000000) (hn : ¬ (RightP TB nv L ∧ (args.length : Int) ≤ nv)) :
  Calls Tryz.prog 8 #[lv, tv, .int .i64 nv, av] w (RNewSt TB nv L args w) := by
 have HC := Lib.hid h
 have HCAP := Lib.hid hcap
 have HT := Lib.hid ht
 have HF := Lib.hid hf
 have HN := Lib.hid hn
 obtain ⟨la, lc, rfl⟩ := h.shape
 obtain ⟨ta, tc, rfl⟩ := ht.shape
 obtain ⟨aa, ac, rfl⟩ := ha.shape
 clear h hcap ht ha hf hn
 go_enter Tryz.func8, Tryz.ntmps8
 go_wp2_with fail
 refine (right_any _ _ TB nv L _ HC.out HCAP.out HT.out HF.out hnv hTB).mono ?_
 rintro e w1 ⟨b, rfl, hb, hf1⟩
 have HB := Lib.hid hb
 have HF1 := Lib.hid hf1
 clear hb hf1
 cases b
 ·go_wp2_with fail
  go_ret2
  exact .inr ⟨HN.out, rfl, HF1.out⟩
 ·have hal : nv < (args.length : Int) := by
   have h1 := HN.out
   have h2 := HB.out.1 rfl
   by_cases h3 : (args.length : Int) ≤ nv
   ·exact (h1 ⟨h2, h3⟩).elim
   ·omega
  go_wp2_with fail
  go_ret2
  exact .inr ⟨HN.out, rfl, HF1.out⟩
set_option maxRecDepth 100000 in
set_option maxHeartbeats 4000000 in
theorem new_yes (lv tv av : Value) (TB args : List Int) (nv : Nat) (L : List InstrD) (w : World) (h : CodeAt w lv L) (hcap : CapOk lv) (ht : IntsAt w tv TB) (ha : IntsAt w av args) (hf : FewC L) (hnv : nv ≤ 1000000) (hTB : TB.length ≤ 100000) (hr : RightP TB nv L) (hal : args.length ≤ nv) :
  Calls Tryz.prog 8 #[lv, tv, .int .i64 nv, av] w (RNewSt TB nv L args w) := by
 have HC := Lib.hid h
 have HCAP := Lib.hid hcap
 have HT := Lib.hid ht
 have HA := Lib.hid ha
 have HF := Lib.hid hf
 have HR := Lib.hid hr
 have h0 := hr.ne
 obtain ⟨la, lc, rfl⟩ := h.shape
 obtain ⟨ta, tc, rfl⟩ := ht.shape
 obtain ⟨aa, ac, rfl⟩ := ha.shape
 clear h hcap ht ha hf hr
 go_enter Tryz.func8, Tryz.ntmps8
 go_wp2_with fail
 refine (right_any _ _ TB nv L _ HC.out HCAP.out HT.out HF.out (by omega) (by omega)).mono ?_
 rintro e w1 ⟨b, rfl, hb, hf1⟩
 obtain rfl : b = true := hb.2 HR.out
 have HF1 := Lib.hid hf1
 have hal1 : (args.length : Int) ≤ (nv : Int) := by omega
 have hal2 : ¬ (nv : Int) < (args.length : Int) := by omega
 clear hb hf1
 go_wp2_with fail
 refine wp_region_sink 8 (fun _ => True) (by kernel_rfl) ?_
 have hSa : (fun _ : World => True) w1.drew := trivial
 refine tk 0 hSa ?_
 refine tk 2 hSa ?_
 refine tk 4 hSa ?_
 try simp only [Act.put, sA, sB, sC]
 refine wpAnyS_two (i := 1) (j := 5) rfl rfl (by kernel_rfl) (by decide) (by decide) (by rfl) (by rfl) (fun K hK => ?_) (fun K hK => ?_)
 ·go_simp
  refine (iclone_any _ L _ (HC.out.fr0 (HF1.out.trans0 (Fr.refl w1 Nil).drew)) HF.out h0).mono ?_
  rintro e w3 ⟨a3, c3, rfl, hcode, hf3⟩
  refine hK.out _ _ trivial ?_
  clear hK K
  try simp only [Act.put, sA, sB, sC]
  refine wpAnyS_two (i := 3) (j := 5) rfl rfl (by kernel_rfl) (by decide) (by decide) (by rfl) (by rfl) (fun K hK => ?_) (fun K hK => ?_)
  ·go_simp
   refine (cloneN_any _ TB.length _ _ (CSl.of_sl (SlAt.of_ints (HT.out.fr0 (((HF1.out.trans0 (Fr.refl w1 Nil).drew)).trans0 hf3)))) (ints_one' TB) hTB).mono ?_
   rintro e w4 ⟨a4, c4, rfl, ho4, hf4⟩
   refine hK.out _ _ trivial ?_
   clear hK K
   try simp only [Act.put, sA, sB, sC]
   refine on1 5 fun K hK => ?_
   refine wp_makeI _ _ rfl nv rfl rfl hnv ?_
   intro w5 ho5 hf5
   refine hK.out _ _ trivial ?_
   clear hK K
   try simp only [Act.put, sA, sB, sC]
   have hn : NJ w w5 (w4.heap.size) nv L TB a3 c3 a4 c4 := ⟨((hcode.also (X' := fun k => k = w4.heap.size) (fun k hk => .inr (by have hd0 : w1.drew.heap.size = w1.heap.size := rfl; have := hf3.size; have := hf4.size; have := hf5.size; omega))).fr0 (hf4.trans0 hf5)).low (by have := HF1.out.size; have hd0 : w1.drew.heap.size = w1.heap.size := rfl; have := hf3.size; have := hf4.size; have := hf5.size; omega), own_in (hf5.own ho4 fun _ _ h => h) (by have := HF1.out.size; have hd0 : w1.drew.heap.size = w1.heap.size := rfl; have := hf3.size; have := hf4.size; have := hf5.size; omega), (fun e => by have := (World.ownsRow.lt ho4 _ e).2; omega), own_in ho5 (by have := HF1.out.size; have hd0 : w1.drew.heap.size = w1.heap.size := rfl; have := hf3.size; have := hf4.size; have := hf5.size; omega), HF1.out.trans0 ((Fr.refl w1 Nil).drew.trans0 (hf3.trans0 (hf4.trans0 hf5)))⟩
   have HNJ := Lib.hid hn
   clear hcode ho4 ho5 hf3 hf4 hf5 hn
   refine tk 6 hSa ?_
   try simp only [Act.put, sA, sB, sC]
   refine on1 7 fun K hK => ?_
   go_simp
   refine hK.out _ _ trivial ?_
   clear hK K
   try simp only [Act.put, sA, sB, sC]
   refine wpAnyS_last (i := 8) rfl (by kernel_rfl) (by decide) (by kernel_rfl) (by rfl) fun K hK => ?_
   go_simp
   refine hK.out _ _ ?_
   clear hK K hSa
   have HFA := Lib.hid (HNJ.out.fr.alloc (.cells #[.slice a3 L.length c3, .slice a4 TB.length c4, .int .i64 0, .slice (some ⟨(w4.heap.size), 0, none⟩) nv nv, .slice none 0 0] 91))
   have HBV := Lib.hid ((own_full HNJ.out.vars).alloc (.cells #[.slice a3 L.length c3, .slice a4 TB.length c4, .int .i64 0, .slice (some ⟨(w4.heap.size), 0, none⟩) nv nv, .slice none 0 0] 91))
   have HAA := Lib.hid (HA.out.fr0 HFA.out)
   go_wp2_with (refine wpList_copyI rfl _ _ rfl (w4.heap.size) nv _ args rfl rfl HBV.out HAA.out hal ?_; intro w7 hb7 hg7; have HST := Lib.hid (HNJ.out.state hal hnv hb7 hg7); clear hb7 hg7)
   go_ret2
   obtain ⟨C, h1, h2, h3⟩ := HST.out
   exact .inl ⟨HR.out, hal1, _, C, rfl, h1, h2, rfl, rfl, rfl, by rw [Int.toNat_natCast], rfl, h3⟩
  ·refine wp_makeI _ _ rfl nv rfl rfl hnv ?_
   intro w5 ho5 hf5
   refine hK.out _ _ trivial ?_
   clear hK K
   try simp only [Act.put, sA, sB, sC]
   refine on1 3 fun K hK => ?_
   go_simp
   refine (cloneN_any _ TB.length _ _ (CSl.of_sl (SlAt.of_ints (HT.out.fr0 ((((HF1.out.trans0 (Fr.refl w1 Nil).drew)).trans0 hf3).trans0 hf5)))) (ints_one' TB) hTB).mono ?_
   rintro e w4 ⟨a4, c4, rfl, ho4, hf4⟩
   refine hK.out _ _ trivial ?_
   clear hK K
   try simp only [Act.put, sA, sB, sC]
   have hn : NJ w w4 (w3.heap.size) nv L TB a3 c3 a4 c4 := ⟨((hcode.also (X' := fun k => k = w3.heap.size) (fun k hk => .inr (by omega))).fr0 (hf5.trans0 hf4)).low (by have := HF1.out.size; have hd0 : w1.drew.heap.size = w1.heap.size := rfl; have := hf3.size; have := hf4.size; have := hf5.size; omega), own_in ho4 (by have := HF1.out.size; have hd0 : w1.drew.heap.size = w1.heap.size := rfl; have := hf3.size; have := hf4.size; have := hf5.size; omega), (fun e => by have := (World.ownsRow.lt ho4 _ e).1; have h9 : w3.heap.size < w5.heap.size := (World.ownsRow.lt ho5 _ rfl).2; omega), own_in (hf4.own ho5 fun _ _ h => h) (by have := HF1.out.size; have hd0 : w1.drew.heap.size = w1.heap.size := rfl; have := hf3.size; have := hf4.size; have := hf5.size; omega), HF1.out.trans0 ((Fr.refl w1 Nil).drew.trans0 (hf3.trans0 (hf5.trans0 hf4)))⟩
   have HNJ := Lib.hid hn
   clear hcode ho4 ho5 hf3 hf4 hf5 hn
   refine tk 6 hSa ?_
   try simp only [Act.put, sA, sB, sC]
   refine on1 7 fun K hK => ?_
   go_simp
   refine hK.out _ _ trivial ?_
   clear hK K
   try simp only [Act.put, sA, sB, sC]
   refine wpAnyS_last (i := 8) rfl (by kernel_rfl) (by decide) (by kernel_rfl) (by rfl) fun K hK => ?_
   go_simp
   refine hK.out _ _ ?_
   clear hK K hSa
   have HFA := Lib.hid (HNJ.out.fr.alloc (.cells #[.slice a3 L.length c3, .slice a4 TB.length c4, .int .i64 0, .slice (some ⟨(w3.heap.size), 0, none⟩) nv nv, .slice none 0 0] 91))
   have HBV := Lib.hid ((own_full HNJ.out.vars).alloc (.cells #[.slice a3 L.length c3, .slice a4 TB.length c4, .int .i64 0, .slice (some ⟨(w3.heap.size), 0, none⟩) nv nv, .slice none 0 0] 91))
   have HAA := Lib.hid (HA.out.fr0 HFA.out)
   go_wp2_with (refine wpList_copyI rfl _ _ rfl (w3.heap.size) nv _ args rfl rfl HBV.out HAA.out hal ?_; intro w7 hb7 hg7; have HST := Lib.hid (HNJ.out.state hal hnv hb7 hg7); clear hb7 hg7)
   go_ret2
   obtain ⟨C, h1, h2, h3⟩ := HST.out
   exact .inl ⟨HR.out, hal1, _, C, rfl, h1, h2, rfl, rfl, rfl, by rw [Int.toNat_natCast], rfl, h3⟩
 ·refine wp_makeI _ _ rfl nv rfl rfl hnv ?_
  intro w5 ho5 hf5
  refine hK.out _ _ trivial ?_
  clear hK K
  try simp only [Act.put, sA, sB, sC]
  refine on1 1 fun K hK => ?_
  go_simp
  refine (iclone_any _ L _ (HC.out.fr0 (((HF1.out.trans0 (Fr.refl w1 Nil).drew)).trans0 hf5)) HF.out h0).mono ?_
  rintro e w3 ⟨a3, c3, rfl, hcode, hf3⟩
  refine hK.out _ _ trivial ?_
  clear hK K
  try simp only [Act.put, sA, sB, sC]
  refine on1 3 fun K hK => ?_
  go_simp
  refine (cloneN_any _ TB.length _ _ (CSl.of_sl (SlAt.of_ints (HT.out.fr0 ((((HF1.out.trans0 (Fr.refl w1 Nil).drew)).trans0 hf5).trans0 hf3)))) (ints_one' TB) hTB).mono ?_
  rintro e w4 ⟨a4, c4, rfl, ho4, hf4⟩
  refine hK.out _ _ trivial ?_
  clear hK K
  try simp only [Act.put, sA, sB, sC]
  have hn : NJ w w4 (w1.heap.size) nv L TB a3 c3 a4 c4 := ⟨((hcode.above (X' := fun k => k = w1.heap.size) (fun k hk => by have h9 : w1.heap.size < w5.heap.size := (World.ownsRow.lt ho5 _ rfl).2; omega)).fr0 hf4).low (by have := HF1.out.size; have hd0 : w1.drew.heap.size = w1.heap.size := rfl; have := hf3.size; have := hf4.size; have := hf5.size; omega), own_in ho4 (by have := HF1.out.size; have hd0 : w1.drew.heap.size = w1.heap.size := rfl; have := hf3.size; have := hf4.size; have := hf5.size; omega), (fun e => by have h9 : w1.heap.size < w5.heap.size := (World.ownsRow.lt ho5 _ rfl).2; have := (World.ownsRow.lt ho4 _ e).1; have := hf3.size; omega), own_in (hf4.own (hf3.own ho5 fun _ _ h => h) fun _ _ h => h) (by have := HF1.out.size; have hd0 : w1.drew.heap.size = w1.heap.size := rfl; have := hf3.size; have := hf4.size; have := hf5.size; omega), HF1.out.trans0 ((Fr.refl w1 Nil).drew.trans0 (hf5.trans0 (hf3.trans0 hf4)))⟩
  have HNJ := Lib.hid hn
  clear hcode ho4 ho5 hf3 hf4 hf5 hn
  refine tk 6 hSa ?_
  try simp only [Act.put, sA, sB, sC]
  refine on1 7 fun K hK => ?_
  go_simp
  refine hK.out _ _ trivial ?_
  clear hK K
  try simp only [Act.put, sA, sB, sC]
  refine wpAnyS_last (i := 8) rfl (by kernel_rfl) (by decide) (by kernel_rfl) (by rfl) fun K hK => ?_
  go_simp
  refine hK.out _ _ ?_
  clear hK K hSa
  have HFA := Lib.hid (HNJ.out.fr.alloc (.cells #[.slice a3 L.length c3, .slice a4 TB.length c4, .int .i64 0, .slice (some ⟨(w1.heap.size), 0, none⟩) nv nv, .slice none 0 0] 91))
  have HBV := Lib.hid ((own_full HNJ.out.vars).alloc (.cells #[.slice a3 L.length c3, .slice a4 TB.length c4, .int .i64 0, .slice (some ⟨(w1.heap.size), 0, none⟩) nv nv, .slice none 0 0] 91))
  have HAA := Lib.hid (HA.out.fr0 HFA.out)
  go_wp2_with (refine wpList_copyI rfl _ _ rfl (w1.heap.size) nv _ args rfl rfl HBV.out HAA.out hal ?_; intro w7 hb7 hg7; have HST := Lib.hid (HNJ.out.state hal hnv hb7 hg7); clear hb7 hg7)
  go_ret2
  obtain ⟨C, h1, h2, h3⟩ := HST.out
  exact .inl ⟨HR.out, hal1, _, C, rfl, h1, h2, rfl, rfl, rfl, by rw [Int.toNat_natCast], rfl, h3⟩
theorem rnew_st (lv tv av : Value) (TB args : List Int) (nv : Int) (L : List InstrD) (w : World) (h : CodeAt w lv L) (hcap : CapOk lv) (ht : IntsAt w tv TB) (ha : IntsAt w av args) (hf : FewC L) (hnv : nv ≤ 1000000) (hTB : TB.length ≤ 100000) :
  Calls Tryz.prog 8 #[lv, tv, .int .i64 nv, av] w (RNewSt TB nv L args w) := by
 by_cases hq : RightP TB nv L ∧ (args.length : Int) ≤ nv
 ·have h0 := hq.1.pos
  obtain ⟨m, rfl⟩ : ∃ m : Nat, nv = (m : Int) := ⟨nv.toNat, by omega⟩
  exact new_yes lv tv av TB args m L w h hcap ht ha hf (by omega) hTB hq.1 (by omega)
 ·exact new_not lv tv av TB args nv L w h hcap ht ha hf hnv (by omega) hq
end Go.Proofs.YtgpekgnhbccnoaaGreat
namespace Go.Proofs.YtgpekgnhbccnoaaGreat
open Go Go.RowKit
attribute [local go_sem ↓] Go.wp_at_zero Go.wp_at_succ

/-- A state, as it is read. -/
structure StR (w : World) (q : StV) : Prop where
 box : Bk w q.sb 91 q.cs
 vars : IntsAt w q.vv q.vars
 out : IntsAt w q.ov q.out
 code : CodeAt w q.lv q.L
 tabs : IntsAt w q.tv q.TB
theorem StR.fr0 {w w' : World} {q : StV} (h : StR w q) (hf : Fr w w' Nil) : StR w' q := ⟨h.box.fr hf fun h => h, h.vars.fr0 hf, h.out.fr0 hf, h.code.fr0 hf, h.tabs.fr0 hf⟩
theorem Lies.stR {w0 W : World} {l : List Thing} {q : StV} (h : Lies w0 W l) (i : Nat) (hi : l[i]? = some (stT q)) : StR W q := by
 obtain ⟨a, b, c, d, e⟩ := h.st i hi
 exact ⟨a, b.at, c.at, d, e⟩
/-- Sizes. -/
structure StF (q : StV) (nv : Nat) : Prop where
 few : FewC q.L
 len : q.vars.length = nv
 le : nv ≤ 100000
 at' : q.at' < q.L.length
 ok : COk q.TB nv q.L
 tb : q.TB.length ≤ 100000
set_option maxRecDepth 100000 in
set_option maxHeartbeats 400000 in
theorem value_any (q : StV) (tv : Value) (t : List TermD) (w : World) (h : StR w q) (ht : TermsAt w tv t) (htl : t.length ≤ 100000) (hvl : q.vars.length ≤ 1000000) :
  Calls Tryz.prog 45 #[.pointer (some ⟨q.sb, 0, none⟩), tv] w fun e w' => e = .returned (.int .i64 (valP q.vars t)) ∧ Fr w w' Nil := by
 obtain ⟨sb, lv, tbv, vv, ov, L, TB, at', vars, out⟩ := q
 simp only at hvl ⊢
 have hv := h.vars
 have hb := h.box.cell 3
 simp only [StV.cs, List.getElem?_cons_zero, List.getElem?_cons_succ] at hv hb
 obtain ⟨ta, tc, rfl⟩ := ht.shape
 obtain ⟨va, vc, rfl⟩ := hv.shape
 have HT := Lib.hid ht
 have HV := Lib.hid hv
 clear h ht hv
 go_enter Tryz.func45, Tryz.ntmps45
 go_wp2_with fail
 refine (eval_any _ _ t vars _ HT.out HV.out htl hvl).mono ?_
 rintro e w2 ⟨he, hf⟩
 obtain ⟨x, hx⟩ : ∃ x, x = (evalP vars t).1 := ⟨_, rfl⟩
 obtain ⟨y, hy⟩ : ∃ y, y = (evalP vars t).2 := ⟨_, rfl⟩
 rw [← hx, ← hy] at he
 have HX : Hid (valP vars t = x) := by rw [hx]; exact Lib.hid rfl
 have HF := Lib.hid hf
 subst he
 clear hf hx hy
 go_wp2_with fail
 go_ret
 exact ⟨by rw [HX.out]; rfl, HF.out⟩
set_option maxRecDepth 100000 in
set_option maxHeartbeats 400000 in
theorem at_any (q : StV) (w : World) (h : StR w q) :
  Calls Tryz.prog 17 #[.pointer (some ⟨q.sb, 0, none⟩)] w fun e w' => e = .returned (.int .i64 q.at') ∧ w = w' := by
 obtain ⟨sb, lv, tbv, vv, ov, L, TB, at', vars, out⟩ := q
 have hb := h.box.cell 2
 simp only [StV.cs, List.getElem?_cons_zero, List.getElem?_cons_succ] at hb
 clear h
 go_enter Tryz.func17, Tryz.ntmps17
 go_wp2_with fail
 go_ret
 exact ⟨rfl, rfl⟩
def SlRet (xs : List Int) (w : World) (e : Ending) (w' : World) : Prop := ∃ a c, e = .returned (.slice a xs.length c) ∧ w'.ownsRow w.heap.size 2 1 (.slice a xs.length c) xs.length (xs.map (Value.int .i64)) ∧ Fr w w' Nil
theorem SlRet.of {xs : List Int} {w w' : World} {v : Value} (h : Cloned xs w v w') : w'.ownsRow w.heap.size 2 1 v xs.length (xs.map (Value.int .i64)) := by
 obtain ⟨h1, h2, _⟩ := h
 refine ⟨h1.1, ?_⟩
 rcases h1.2 with hn | ⟨g, cap, cur, rfl, hb, hg, r⟩
 ·exact .inl hn
 ·exact .inr ⟨g, cap, cur, rfl, h2 g rfl, hg, r⟩
set_option maxRecDepth 100000 in
set_option maxHeartbeats 400000 in
theorem vars_any (q : StV) (w : World) (h : StR w q) (hl : q.vars.length ≤ 1000000) :
  Calls Tryz.prog 19 #[.pointer (some ⟨q.sb, 0, none⟩)] w (SlRet q.vars w) := by
 obtain ⟨sb, lv, tbv, vv, ov, L, TB, at', vars, out⟩ := q
 have hb := h.box.cell 3
 have hv := h.vars
 simp only [StV.cs, List.getElem?_cons_zero, List.getElem?_cons_succ] at hb hv
 obtain ⟨va, vc, rfl⟩ := hv.shape
 have HV := Lib.hid hv
 clear h hv
 go_enter Tryz.func19, Tryz.ntmps19
 go_wp2_with fail
 refine (clone_any _ vars _ HV.out hl).mono ?_
 rintro e w2 ⟨a, c, rfl, hc⟩
 have HC := Lib.hid (SlRet.of hc)
 have HF := Lib.hid hc.2.2
 clear hc
 go_wp2_with fail
 go_ret
 exact ⟨a, c, rfl, HC.out, HF.out⟩
set_option maxRecDepth 100000 in
set_option maxHeartbeats 400000 in
theorem out_any (q : StV) (w : World) (h : StR w q) (hl : q.out.length ≤ 1000000) :
  Calls Tryz.prog 20 #[.pointer (some ⟨q.sb, 0, none⟩)] w (SlRet q.out w) := by
 obtain ⟨sb, lv, tbv, vv, ov, L, TB, at', vars, out⟩ := q
 have hb := h.box.cell 4
 have hv := h.out
 simp only [StV.cs, List.getElem?_cons_zero, List.getElem?_cons_succ] at hb hv
 obtain ⟨va, vc, rfl⟩ := hv.shape
 have HV := Lib.hid hv
 clear h hv
 go_enter Tryz.func20, Tryz.ntmps20
 go_wp2_with fail
 refine (clone_any _ out _ HV.out hl).mono ?_
 rintro e w2 ⟨a, c, rfl, hc⟩
 have HC := Lib.hid (SlRet.of hc)
 have HF := Lib.hid hc.2.2
 clear hc
 go_wp2_with fail
 go_ret
 exact ⟨a, c, rfl, HC.out, HF.out⟩
end Go.Proofs.YtgpekgnhbccnoaaGreat
namespace Go.Proofs.YtgpekgnhbccnoaaGreat
open Go Go.RowKit
attribute [local go_sem ↓] Go.wp_at_zero Go.wp_at_succ

abbrev WantD.val (x : WantD) : Value := .agg #[.int .u8 x.kind, .int .i64 x.tab, .bool x.row, .int .i64 x.key, .int .u8 x.mode, .bool x.touched, .bool x.wrote]
abbrev wantZ : Array Value := #[.int .u8 0, .int .i64 0, .bool false, .int .i64 0, .int .u8 0, .bool false, .bool false]
set_option maxRecDepth 100000 in
set_option maxHeartbeats 8000000 in
theorem next_any (q : StV) (nv : Nat) (n : InstrD) (w : World) (h : StR w q) (hf : StF q nv) (hn : q.L[q.at']? = some n) :
  Calls Tryz.prog 15 #[.pointer (some ⟨q.sb, 0, none⟩)] w fun e w' => e = .returned (nextP n q.vars).val ∧ Fr w w' Nil := by
 have hiok := hf.ok.all _ _ hn
 have hnf := hf.few.2 n (List.mem_of_getElem? hn)
 have hvl := hf.len
 have hnvl := hf.le
 have hLl := hf.few.1
 have hat := hf.at'
 obtain ⟨sb, lv, tbv, vv, ov, L, TB, at', vars, out⟩ := q
 simp only at hn hiok hvl hLl hat hnf ⊢
 have HR1 : Hid (∀ w', Fr w w' Nil → StR w' ⟨sb, lv, tbv, vv, ov, L, TB, at', vars, out⟩) := fun w' hf => h.fr0 hf
 obtain ⟨w1, hw1⟩ : ∃ w1, w1 = w.alloc (.cells wantZ 50) := ⟨_, rfl⟩
 have HF1 : Hid (Fr w w1 Nil) := by rw [hw1]; exact Lib.hid ((Fr.refl w Nil).alloc _)
 have HB2 : Hid (Bk w1 w.heap.size 50 wantZ.toList) := by rw [hw1]; exact Lib.hid (Bk.new w _ _)
 have HR := Lib.hid (h.fr0 HF1.out)
 have HW1 := Lib.hid hw1
 obtain ⟨b, off, cap, hlv, hlc⟩ := HR.out.code.form (by show 0 < L.length; omega)
 simp only at hlv
 subst hlv
 obtain ⟨ka, kc, va, vc, hkt, hvt, p0, p1, p2, p3, p4, p5, p6, p7, p8, p9, p10, p11, p12⟩ := (hlc at' n hn).cell
 have HKT := Lib.hid hkt
 have b0 := HR.out.box.cell 0
 have b2 := HR.out.box.cell 2
 simp only [StV.cs, List.getElem?_cons_zero, List.getElem?_cons_succ] at b0 b2
 have k0 := KeptF.cell b0
 have k2 := KeptF.cell b2
 have j0 := KeptF.cell p0
 have j1 := KeptF.cell p1
 have j2 := KeptF.cell p2
 have j3 := KeptF.cell p3
 have j4 := KeptF.cell p4
 have j5 := KeptF.cell p5
 have j6 := KeptF.cell p6
 have j7 := KeptF.cell p7
 have j8 := KeptF.cell p8
 have j9 := KeptF.cell p9
 have j10 := KeptF.cell p10
 have j11 := KeptF.cell p11
 have j12 := KeptF.cell p12
 have HIOK := Lib.hid hiok
 have HNF := Lib.hid hnf
 clear h hf hn hiok hw1 hlc hkt hvt hnf b0 b2 p0 p1 p2 p3 p4 p5 p6 p7 p8 p9 p10 p11 p12
 obtain ⟨op, node, mode, tab, row, col, var, dst, eq, fro, upto, key, vals⟩ := n
 simp only at HKT j0 j1 j2 j3 j4 j5 j6 j7 j8 j9 j10 j11 j12
 go_enter Tryz.func15, Tryz.ntmps15
 go_wp2_with fail
 rw [← HW1.out]
 refine wp_region_sink 11 (KeptF w1) (by kernel_rfl) ?_
 have hSa : KeptF w1 w1.drew := KeptF.start _
 refine tk 0 hSa ?_
 refine tk 1 hSa ?_
 refine tk 2 hSa ?_
 try simp only [Act.put, sA, sB, sC]
 refine tk 3 hSa ?_ (hy := by intro _ w; have ck0 := k0 _ w; go_simp <;> with_reducible rfl)
 try simp only [Act.put, sA, sB, sC]
 refine tk 4 hSa ?_
 refine tk 5 hSa ?_
 refine tk 6 hSa ?_
 try simp only [Act.put, sA, sB, sC]
 refine tk 7 hSa ?_ (hy := by intro _ w; have ck2 := k2 _ w; go_simp <;> with_reducible rfl)
 try simp only [Act.put, sA, sB, sC]
 refine tk 8 hSa ?_
 try simp only [Act.put, sA, sB, sC]
 refine tk 9 hSa ?_ (hy := by intro _ w; have cj0 := j0 _ w; have cj1 := j1 _ w; have cj2 := j2 _ w; have cj3 := j3 _ w; have cj4 := j4 _ w; have cj5 := j5 _ w; have cj6 := j6 _ w; have cj7 := j7 _ w; have cj8 := j8 _ w; have cj9 := j9 _ w; have cj10 := j10 _ w; have cj11 := j11 _ w; have cj12 := j12 _ w; go_simp <;> with_reducible rfl)
 try simp only [Act.put, sA, sB, sC]
 refine on1 10 fun K hK => ?_
 go_simp
 refine hK.out _ _ (KeptF.next hSa ((Fr.refl _ Nil).alloc _)) ?_
 clear hK K
 try simp only [Act.put, sA, sB, sC]
 refine wpAnyS_last (i := 11) rfl (by kernel_rfl) (by decide) (by kernel_rfl) (by rfl) fun K hK => ?_
 go_simp
 refine hK.out _ _ ?_
 clear hK K
 obtain ⟨w2, hw2⟩ : ∃ w2, w2 = (w1.alloc (.cells #[.int .u8 op, .int .i64 node, .int .u8 mode, .int .i64 tab, .bool row, .int .i64 col, .int .i64 var, .int .i64 dst, .bool eq, .int .i64 fro, .int .i64 upto, .slice ka key.length kc, .slice va vals.length vc] 81)).drew := ⟨_, rfl⟩
 have HF2 : Hid (Fr w1 w2 Nil) := by rw [hw2]; exact Lib.hid ((Fr.refl w1 Nil).alloc _).drew
 have HBN : Hid (Bk w2 w1.heap.size 81 #[.int .u8 op, .int .i64 node, .int .u8 mode, .int .i64 tab, .bool row, .int .i64 col, .int .i64 var, .int .i64 dst, .bool eq, .int .i64 fro, .int .i64 upto, .slice ka key.length kc, .slice va vals.length vc].toList) := by rw [hw2]; exact Lib.hid (Bk.new w1 _ _).drew
 rw [← hw2]
 clear hw2 hSa j0 j1 j2 j3 j4 j5 j6 j7 j8 j9 j10 j11 j12 k0 k2
 obtain ⟨w3, hw3⟩ : ∃ w3, w3 = w2.alloc (.cells #[.int .i64 tab, .bool false, .int .i64 0] 47) := ⟨_, rfl⟩
 have HF3 : Hid (Fr w2 w3 Nil) := by rw [hw3]; exact Lib.hid ((Fr.refl w2 Nil).alloc _)
 have HB4 : Hid (Bk w3 w2.heap.size 47 [.int .i64 tab, .bool false, .int .i64 0]) := by rw [hw3]; exact Lib.hid (Bk.new w2 _ _)
 have HW3 := Lib.hid hw3
 clear hw3
 have n3 := HBN.out.cell 3
 simp only [List.getElem?_cons_zero, List.getElem?_cons_succ] at n3
 go_upto_region 5 with (fail)
 rw [← HW3.out]
 clear n3
 have HKT3 := Lib.hid (HKT.out.fr0 (HF2.out.trans0 HF3.out))
 have HR3 := Lib.hid (HR.out.fr0 (HF2.out.trans0 HF3.out))
 go_cut [5] from 23 to 29 (fun v5 wx => ∃ b5, v5 = .pointer (some ⟨b5, 0, none⟩) ∧ Bk wx b5 47 [.int .i64 tab, .bool true, .int .i64 (valP vars key)] ∧ Fr w3 wx Nil)
 case first =>
  have k3 := KeptF.cell (w0 := w3) (show w3.cell? ⟨w1.heap.size, 3, none⟩ = some _ from (HBN.out.fr HF3.out fun h => h).cell 3)
  have k11 := KeptF.cell (w0 := w3) (show w3.cell? ⟨w1.heap.size, 11, none⟩ = some _ from (HBN.out.fr HF3.out fun h => h).cell 11)
  refine wp_region_sink 8 (KeptF w3) (by kernel_rfl) ?_
  have hSb : KeptF w3 w3.drew := KeptF.start _
  refine tk 0 hSb ?_
  try simp only [Act.put, sA, sB, sC]
  refine tk 1 hSb ?_ (hy := by intro _ w; have ck3 := k3 _ w; go_simp <;> with_reducible rfl)
  try simp only [Act.put, sA, sB, sC]
  refine tk 2 hSb ?_
  refine tk 3 hSb ?_
  try simp only [Act.put, sA, sB, sC]
  refine tk 4 hSb ?_ (hy := by intro _ w; have ck11 := k11 _ w; go_simp <;> with_reducible rfl)
  try simp only [Act.put, sA, sB, sC]
  refine wpAnyS_two (i := 5) (j := 7) rfl rfl (by kernel_rfl) (by decide) (by decide) (by rfl) (by rfl) (fun K hK => ?_) (fun K hK => ?_)
  ·go_simp
   refine (value_any _ _ key _ (HR3.out.fr0 (KeptF.fr hSb)) (HKT3.out.fr0 (KeptF.fr hSb)) HNF.out.1 (by show vars.length ≤ _; omega)).mono ?_
   rintro e w6 ⟨rfl, hf6⟩
   have hSc := KeptF.next hSb hf6
   refine hK.out _ _ hSc ?_
   clear hK K
   refine tk 6 hSc ?_
   try simp only [Act.put, sA, sB, sC]
   refine on1 7 fun K hK => ?_
   go_simp
   have hSd := KeptF.next hSc ((Fr.refl _ Nil).alloc (.cells #[.int .i64 0, .bool false, .int .i64 0] 47))
   refine hK.out _ _ hSd ?_
   clear hK K
   refine wpAnyS_last (i := 8) rfl (by kernel_rfl) (by decide) (by kernel_rfl) (by rfl) fun K hK => ?_
   go_simp
   refine hK.out _ _ ?_
   have HF := Lib.hid ((KeptF.fr hSc).alloc (.cells #[.int .i64 tab, .bool true, .int .i64 (valP vars key)] 47))
   clear hK K hSb hSc hSd k3 k11 hf6
   go_wp2_with fail
   go_meet
   case rel => exact ⟨_, rfl, Bk.new _ _ _, HF.out⟩
  ·go_simp
   have hSc := KeptF.next hSb ((Fr.refl _ Nil).alloc (.cells #[.int .i64 0, .bool false, .int .i64 0] 47))
   have hb5 : Bk (w3.drew.alloc (.cells #[.int .i64 0, .bool false, .int .i64 0] 47)) w3.heap.size 47 [.int .i64 0, .bool false, .int .i64 0] := Bk.new w3.drew _ _
   refine hK.out _ _ hSc ?_
   clear hK K
   refine on1 5 fun K hK => ?_
   go_simp
   refine (value_any _ _ key _ (HR3.out.fr0 (KeptF.fr hSc)) (HKT3.out.fr0 (KeptF.fr hSc)) HNF.out.1 (by show vars.length ≤ _; omega)).mono ?_
   rintro e w6 ⟨rfl, hf6⟩
   have hSd := KeptF.next hSc hf6
   refine hK.out _ _ hSd ?_
   clear hK K
   refine tk 6 hSd ?_
   try simp only [Act.put, sA, sB, sC]
   have hb6 := hb5.fr hf6 fun h => h
   have s0 := hb6.cell 0
   have s1 := hb6.cell 1
   have s2 := hb6.cell 2
   have sf := hb6.free
   simp only [List.getElem?_cons_zero, List.getElem?_cons_succ] at s0 s1 s2
   refine wpAnyS_last (i := 8) rfl (by kernel_rfl) (by decide) (by kernel_rfl) (by rfl) fun K hK => ?_
   go_simp
   refine hK.out _ _ ?_
   clear hK K
   refine set3_world hb6 ?_
   intro w7 hb7 hf7
   have HF : Hid (Fr w3 w7 Nil) := Lib.hid ((KeptF.fr hSb).trans (((Fr.refl _ Nil).alloc _).trans0 hf6 |>.of_nil |>.trans hf7 fun j hj h => h) fun j hj h => by have : j = w3.heap.size := h; omega)
   have HB7 := Lib.hid hb7
   clear hSb hSc hSd k3 k11 hf6 hb5 hb6 s0 s1 s2 sf hf7 hb7
   go_wp2_with fail
   go_meet
   case rel => exact ⟨_, rfl, HB7.out, HF.out⟩
 case rest =>
  obtain ⟨b5, rfl, hb5, hf5⟩ := hcut
  have HB5 := Lib.hid hb5
  have HF5 := Lib.hid hf5
  have hl5 := hb5.lt
  clear hb5 hf5 HKT3 HR3
  have HBN5 := Lib.hid (HBN.out.fr (HF3.out.trans0 HF5.out) fun h => h)
  have HB45 := Lib.hid (HB4.out.fr HF5.out fun h => h)
  have HB25 := Lib.hid (HB2.out.fr (HF2.out.trans0 (HF3.out.trans0 HF5.out)) fun h => h)
  have HFA := Lib.hid (HF1.out.trans0 (HF2.out.trans0 (HF3.out.trans0 HF5.out)))
  have n0 := fun o => (HBN5.out.alloc o).cell 0
  have n2 := fun o => (HBN5.out.alloc o).cell 2
  have n4 := fun o => (HBN5.out.alloc o).cell 4
  have x0 := fun o => (HB45.out.alloc o).cell 0
  have x1 := fun o => (HB45.out.alloc o).cell 1
  have x2 := fun o => (HB45.out.alloc o).cell 2
  have y0 := fun o => (HB5.out.alloc o).cell 0
  have y1 := fun o => (HB5.out.alloc o).cell 1
  have y2 := fun o => (HB5.out.alloc o).cell 2
  have s0 := fun o => (HB25.out.alloc o).cell 0
  have s1 := fun o => (HB25.out.alloc o).cell 1
  have s2 := fun o => (HB25.out.alloc o).cell 2
  have s3 := fun o => (HB25.out.alloc o).cell 3
  have s4 := fun o => (HB25.out.alloc o).cell 4
  have s5 := fun o => (HB25.out.alloc o).cell 5
  have s6 := fun o => (HB25.out.alloc o).cell 6
  have sf := fun o => (HB25.out.alloc o).free
  simp only [List.getElem?_cons_zero, List.getElem?_cons_succ] at n0 n2 n4 x0 x1 x2 y0 y1 y2 s0 s1 s2 s3 s4 s5 s6
  have h1 := HIOK.out.lo
  have h2 := HIOK.out.hi
  simp only at h1 h2
  have HXF : Hid (∀ o, Fr w (wc.alloc o) Nil) := fun o => HFA.out.alloc o
  by_cases e1 : op = 1
  ·subst e1
   cases row
   ·go_wp2_with fail
    refine set7_world (HB25.out.alloc _) ?_
    intro w9 hb9 hf9
    have t0 := hb9.cell 0
    have t1 := hb9.cell 1
    have t2 := hb9.cell 2
    have t3 := hb9.cell 3
    have t4 := hb9.cell 4
    have t5 := hb9.cell 5
    have t6 := hb9.cell 6
    simp only [List.getElem?_cons_zero, List.getElem?_cons_succ] at t0 t1 t2 t3 t4 t5 t6
    have HF9 : Hid (Fr w w9 Nil) := Lib.hid (((HXF.out _).of_nil.trans hf9 fun j hj h => h).mono fun j hj h => by have : j = w.heap.size := h; omega)
    clear hb9 hf9 sf s0 s1 s2 s3 s4 s5 s6 x0 x1 x2 y0 y1 y2 n0 n2 n4
    go_wp2_with fail
    exact bodyPost_ret (v := (nextP ⟨1, node, mode, tab, false, col, var, dst, eq, fro, upto, key, vals⟩ vars).val) (by simp [results, Tryz.results15, go_sem, t0, t1, t2, t3, t4, t5, t6, nextP]; try rfl) rfl ⟨rfl, HF9.out⟩
   ·go_wp2_with fail
    refine set7_world (HB25.out.alloc _) ?_
    intro w9 hb9 hf9
    have t0 := hb9.cell 0
    have t1 := hb9.cell 1
    have t2 := hb9.cell 2
    have t3 := hb9.cell 3
    have t4 := hb9.cell 4
    have t5 := hb9.cell 5
    have t6 := hb9.cell 6
    simp only [List.getElem?_cons_zero, List.getElem?_cons_succ] at t0 t1 t2 t3 t4 t5 t6
    have HF9 : Hid (Fr w w9 Nil) := Lib.hid (((HXF.out _).of_nil.trans hf9 fun j hj h => h).mono fun j hj h => by have : j = w.heap.size := h; omega)
    clear hb9 hf9 sf s0 s1 s2 s3 s4 s5 s6 x0 x1 x2 y0 y1 y2 n0 n2 n4
    go_wp2_with fail
    exact bodyPost_ret (v := (nextP ⟨1, node, mode, tab, true, col, var, dst, eq, fro, upto, key, vals⟩ vars).val) (by simp [results, Tryz.results15, go_sem, t0, t1, t2, t3, t4, t5, t6, nextP]; try rfl) rfl ⟨rfl, HF9.out⟩
  by_cases e2 : op = 2
  ·subst e2
   cases row
   ·go_wp2_with fail
    refine set7_world (HB25.out.alloc _) ?_
    intro w9 hb9 hf9
    have t0 := hb9.cell 0
    have t1 := hb9.cell 1
    have t2 := hb9.cell 2
    have t3 := hb9.cell 3
    have t4 := hb9.cell 4
    have t5 := hb9.cell 5
    have t6 := hb9.cell 6
    simp only [List.getElem?_cons_zero, List.getElem?_cons_succ] at t0 t1 t2 t3 t4 t5 t6
    have HF9 : Hid (Fr w w9 Nil) := Lib.hid (((HXF.out _).of_nil.trans hf9 fun j hj h => h).mono fun j hj h => by have : j = w.heap.size := h; omega)
    clear hb9 hf9 sf s0 s1 s2 s3 s4 s5 s6 x0 x1 x2 y0 y1 y2 n0 n2 n4
    go_wp2_with fail
    exact bodyPost_ret (v := (nextP ⟨2, node, mode, tab, false, col, var, dst, eq, fro, upto, key, vals⟩ vars).val) (by simp [results, Tryz.results15, go_sem, t0, t1, t2, t3, t4, t5, t6, nextP]; try rfl) rfl ⟨rfl, HF9.out⟩
   ·go_wp2_with fail
    refine set7_world (HB25.out.alloc _) ?_
    intro w9 hb9 hf9
    have t0 := hb9.cell 0
    have t1 := hb9.cell 1
    have t2 := hb9.cell 2
    have t3 := hb9.cell 3
    have t4 := hb9.cell 4
    have t5 := hb9.cell 5
    have t6 := hb9.cell 6
    simp only [List.getElem?_cons_zero, List.getElem?_cons_succ] at t0 t1 t2 t3 t4 t5 t6
    have HF9 : Hid (Fr w w9 Nil) := Lib.hid (((HXF.out _).of_nil.trans hf9 fun j hj h => h).mono fun j hj h => by have : j = w.heap.size := h; omega)
    clear hb9 hf9 sf s0 s1 s2 s3 s4 s5 s6 x0 x1 x2 y0 y1 y2 n0 n2 n4
    go_wp2_with fail
    exact bodyPost_ret (v := (nextP ⟨2, node, mode, tab, true, col, var, dst, eq, fro, upto, key, vals⟩ vars).val) (by simp [results, Tryz.results15, go_sem, t0, t1, t2, t3, t4, t5, t6, nextP]; try rfl) rfl ⟨rfl, HF9.out⟩
  by_cases e3 : op = 3
  ·subst e3
   go_wp2_with fail
   refine set7_world (HB25.out.alloc _) ?_
   intro w9 hb9 hf9
   have t0 := hb9.cell 0
   have t1 := hb9.cell 1
   have t2 := hb9.cell 2
   have t3 := hb9.cell 3
   have t4 := hb9.cell 4
   have t5 := hb9.cell 5
   have t6 := hb9.cell 6
   simp only [List.getElem?_cons_zero, List.getElem?_cons_succ] at t0 t1 t2 t3 t4 t5 t6
   have HF9 : Hid (Fr w w9 Nil) := Lib.hid (((HXF.out _).of_nil.trans hf9 fun j hj h => h).mono fun j hj h => by have : j = w.heap.size := h; omega)
   clear hb9 hf9 sf s0 s1 s2 s3 s4 s5 s6 x0 x1 x2 y0 y1 y2 n0 n2 n4
   go_wp2_with fail
   exact bodyPost_ret (v := (nextP ⟨3, node, mode, tab, row, col, var, dst, eq, fro, upto, key, vals⟩ vars).val) (by simp [results, Tryz.results15, go_sem, t0, t1, t2, t3, t4, t5, t6, nextP]; try rfl) rfl ⟨rfl, HF9.out⟩
  by_cases e4 : op = 4
  ·subst e4
   go_wp2_with fail
   refine set7_world (HB25.out.alloc _) ?_
   intro w9 hb9 hf9
   have t0 := hb9.cell 0
   have t1 := hb9.cell 1
   have t2 := hb9.cell 2
   have t3 := hb9.cell 3
   have t4 := hb9.cell 4
   have t5 := hb9.cell 5
   have t6 := hb9.cell 6
   simp only [List.getElem?_cons_zero, List.getElem?_cons_succ] at t0 t1 t2 t3 t4 t5 t6
   have HF9 : Hid (Fr w w9 Nil) := Lib.hid (((HXF.out _).of_nil.trans hf9 fun j hj h => h).mono fun j hj h => by have : j = w.heap.size := h; omega)
   clear hb9 hf9 sf s0 s1 s2 s3 s4 s5 s6 x0 x1 x2 y0 y1 y2 n0 n2 n4
   go_wp2_with fail
   exact bodyPost_ret (v := (nextP ⟨4, node, mode, tab, row, col, var, dst, eq, fro, upto, key, vals⟩ vars).val) (by simp [results, Tryz.results15, go_sem, t0, t1, t2, t3, t4, t5, t6, nextP]; try rfl) rfl ⟨rfl, HF9.out⟩
  by_cases e5 : op = 5
  ·subst e5
   go_wp2_with fail
   refine set7_world (HB25.out.alloc _) ?_
   intro w9 hb9 hf9
   have t0 := hb9.cell 0
   have t1 := hb9.cell 1
   have t2 := hb9.cell 2
   have t3 := hb9.cell 3
   have t4 := hb9.cell 4
   have t5 := hb9.cell 5
   have t6 := hb9.cell 6
   simp only [List.getElem?_cons_zero, List.getElem?_cons_succ] at t0 t1 t2 t3 t4 t5 t6
   have HF9 : Hid (Fr w w9 Nil) := Lib.hid (((HXF.out _).of_nil.trans hf9 fun j hj h => h).mono fun j hj h => by have : j = w.heap.size := h; omega)
   clear hb9 hf9 sf s0 s1 s2 s3 s4 s5 s6 x0 x1 x2 y0 y1 y2 n0 n2 n4
   go_wp2_with fail
   exact bodyPost_ret (v := (nextP ⟨5, node, mode, tab, row, col, var, dst, eq, fro, upto, key, vals⟩ vars).val) (by simp [results, Tryz.results15, go_sem, t0, t1, t2, t3, t4, t5, t6, nextP]; try rfl) rfl ⟨rfl, HF9.out⟩
  by_cases e6 : op = 6
  ·subst e6
   go_wp2_with fail
   refine set7_world (HB25.out.alloc _) ?_
   intro w9 hb9 hf9
   have t0 := hb9.cell 0
   have t1 := hb9.cell 1
   have t2 := hb9.cell 2
   have t3 := hb9.cell 3
   have t4 := hb9.cell 4
   have t5 := hb9.cell 5
   have t6 := hb9.cell 6
   simp only [List.getElem?_cons_zero, List.getElem?_cons_succ] at t0 t1 t2 t3 t4 t5 t6
   have HF9 : Hid (Fr w w9 Nil) := Lib.hid (((HXF.out _).of_nil.trans hf9 fun j hj h => h).mono fun j hj h => by have : j = w.heap.size := h; omega)
   clear hb9 hf9 sf s0 s1 s2 s3 s4 s5 s6 x0 x1 x2 y0 y1 y2 n0 n2 n4
   go_wp2_with fail
   exact bodyPost_ret (v := (nextP ⟨6, node, mode, tab, row, col, var, dst, eq, fro, upto, key, vals⟩ vars).val) (by simp [results, Tryz.results15, go_sem, t0, t1, t2, t3, t4, t5, t6, nextP]; try rfl) rfl ⟨rfl, HF9.out⟩
  by_cases e7 : op = 7
  ·subst e7
   go_wp2_with fail
   refine set7_world (HB25.out.alloc _) ?_
   intro w9 hb9 hf9
   have t0 := hb9.cell 0
   have t1 := hb9.cell 1
   have t2 := hb9.cell 2
   have t3 := hb9.cell 3
   have t4 := hb9.cell 4
   have t5 := hb9.cell 5
   have t6 := hb9.cell 6
   simp only [List.getElem?_cons_zero, List.getElem?_cons_succ] at t0 t1 t2 t3 t4 t5 t6
   have HF9 : Hid (Fr w w9 Nil) := Lib.hid (((HXF.out _).of_nil.trans hf9 fun j hj h => h).mono fun j hj h => by have : j = w.heap.size := h; omega)
   clear hb9 hf9 sf s0 s1 s2 s3 s4 s5 s6 x0 x1 x2 y0 y1 y2 n0 n2 n4
   go_wp2_with fail
   exact bodyPost_ret (v := (nextP ⟨7, node, mode, tab, row, col, var, dst, eq, fro, upto, key, vals⟩ vars).val) (by simp [results, Tryz.results15, go_sem, t0, t1, t2, t3, t4, t5, t6, nextP]; try rfl) rfl ⟨rfl, HF9.out⟩
  by_cases e14 : op = 14
  ·subst e14
   go_wp2_with fail
   refine set7_world (HB25.out.alloc _) ?_
   intro w9 hb9 hf9
   have t0 := hb9.cell 0
   have t1 := hb9.cell 1
   have t2 := hb9.cell 2
   have t3 := hb9.cell 3
   have t4 := hb9.cell 4
   have t5 := hb9.cell 5
   have t6 := hb9.cell 6
   simp only [List.getElem?_cons_zero, List.getElem?_cons_succ] at t0 t1 t2 t3 t4 t5 t6
   have HF9 : Hid (Fr w w9 Nil) := Lib.hid (((HXF.out _).of_nil.trans hf9 fun j hj h => h).mono fun j hj h => by have : j = w.heap.size := h; omega)
   clear hb9 hf9 sf s0 s1 s2 s3 s4 s5 s6 x0 x1 x2 y0 y1 y2 n0 n2 n4
   go_wp2_with fail
   exact bodyPost_ret (v := (nextP ⟨14, node, mode, tab, row, col, var, dst, eq, fro, upto, key, vals⟩ vars).val) (by simp [results, Tryz.results15, go_sem, t0, t1, t2, t3, t4, t5, t6, nextP]; try rfl) rfl ⟨rfl, HF9.out⟩
  by_cases e15 : op = 15
  ·subst e15
   go_wp2_with fail
   refine set7_world (HB25.out.alloc _) ?_
   intro w9 hb9 hf9
   have t0 := hb9.cell 0
   have t1 := hb9.cell 1
   have t2 := hb9.cell 2
   have t3 := hb9.cell 3
   have t4 := hb9.cell 4
   have t5 := hb9.cell 5
   have t6 := hb9.cell 6
   simp only [List.getElem?_cons_zero, List.getElem?_cons_succ] at t0 t1 t2 t3 t4 t5 t6
   have HF9 : Hid (Fr w w9 Nil) := Lib.hid (((HXF.out _).of_nil.trans hf9 fun j hj h => h).mono fun j hj h => by have : j = w.heap.size := h; omega)
   clear hb9 hf9 sf s0 s1 s2 s3 s4 s5 s6 x0 x1 x2 y0 y1 y2 n0 n2 n4
   go_wp2_with fail
   exact bodyPost_ret (v := (nextP ⟨15, node, mode, tab, row, col, var, dst, eq, fro, upto, key, vals⟩ vars).val) (by simp [results, Tryz.results15, go_sem, t0, t1, t2, t3, t4, t5, t6, nextP]; try rfl) rfl ⟨rfl, HF9.out⟩
  by_cases e16 : op = 16
  ·subst e16
   go_wp2_with fail
   refine set7_world (HB25.out.alloc _) ?_
   intro w9 hb9 hf9
   have t0 := hb9.cell 0
   have t1 := hb9.cell 1
   have t2 := hb9.cell 2
   have t3 := hb9.cell 3
   have t4 := hb9.cell 4
   have t5 := hb9.cell 5
   have t6 := hb9.cell 6
   simp only [List.getElem?_cons_zero, List.getElem?_cons_succ] at t0 t1 t2 t3 t4 t5 t6
   have HF9 : Hid (Fr w w9 Nil) := Lib.hid (((HXF.out _).of_nil.trans hf9 fun j hj h => h).mono fun j hj h => by have : j = w.heap.size := h; omega)
   clear hb9 hf9 sf s0 s1 s2 s3 s4 s5 s6 x0 x1 x2 y0 y1 y2 n0 n2 n4
   go_wp2_with fail
   exact bodyPost_ret (v := (nextP ⟨16, node, mode, tab, row, col, var, dst, eq, fro, upto, key, vals⟩ vars).val) (by simp [results, Tryz.results15, go_sem, t0, t1, t2, t3, t4, t5, t6, nextP]; try rfl) rfl ⟨rfl, HF9.out⟩
  have HNX : Hid (nextP ⟨op, node, mode, tab, row, col, var, dst, eq, fro, upto, key, vals⟩ vars = ⟨1, 0, false, 0, 0, false, false⟩) := by
   have : nextP ⟨op, node, mode, tab, row, col, var, dst, eq, fro, upto, key, vals⟩ vars = ⟨1, 0, false, 0, 0, false, false⟩ := by unfold nextP; simp [e1, e2, e3, e4, e5, e6, e7, e14, e15, e16]
   exact this
  have f1 : (op == 1) = false := by rw [beq_eq_false_iff_ne]; exact e1
  have f2 : (op == 2) = false := by rw [beq_eq_false_iff_ne]; exact e2
  have f3 : (op == 3) = false := by rw [beq_eq_false_iff_ne]; exact e3
  have f4 : (op == 4) = false := by rw [beq_eq_false_iff_ne]; exact e4
  have f5 : (op == 5) = false := by rw [beq_eq_false_iff_ne]; exact e5
  have f6 : (op == 6) = false := by rw [beq_eq_false_iff_ne]; exact e6
  have f7 : (op == 7) = false := by rw [beq_eq_false_iff_ne]; exact e7
  have f14 : (op == 14) = false := by rw [beq_eq_false_iff_ne]; exact e14
  have f15 : (op == 15) = false := by rw [beq_eq_false_iff_ne]; exact e15
  have f16 : (op == 16) = false := by rw [beq_eq_false_iff_ne]; exact e16
  clear e1 e2 e3 e4 e5 e6 e7 e14 e15 e16
  go_wp2_with fail
  refine set7_world (HB25.out.alloc _) ?_
  intro w9 hb9 hf9
  have t0 := hb9.cell 0
  have t1 := hb9.cell 1
  have t2 := hb9.cell 2
  have t3 := hb9.cell 3
  have t4 := hb9.cell 4
  have t5 := hb9.cell 5
  have t6 := hb9.cell 6
  simp only [List.getElem?_cons_zero, List.getElem?_cons_succ] at t0 t1 t2 t3 t4 t5 t6
  have HF9 : Hid (Fr w w9 Nil) := Lib.hid (((HXF.out _).of_nil.trans hf9 fun j hj h => h).mono fun j hj h => by have : j = w.heap.size := h; omega)
  clear hb9 hf9 sf s0 s1 s2 s3 s4 s5 s6 x0 x1 x2 y0 y1 y2 n0 n2 n4
  go_wp2_with fail
  exact bodyPost_ret (v := WantD.val ⟨1, 0, false, 0, 0, false, false⟩) (by simp [results, Tryz.results15, go_sem, t0, t1, t2, t3, t4, t5, t6]; try rfl) rfl ⟨by rw [HNX.out], HF9.out⟩
end Go.Proofs.YtgpekgnhbccnoaaGreat
namespace Go.Proofs.YtgpekgnhbccnoaaGreat
open Go Go.RowKit

theorem nextP_kinds {n : InstrD} (vars : List Int) : (nextP n vars).kind = 1 ∨ (nextP n vars).kind = 2 ∨ (nextP n vars).kind = 3 ∨ (nextP n vars).kind = 4 ∨ (nextP n vars).kind = 5 ∨ (nextP n vars).kind = 6 := by
 unfold nextP
 repeat' split
 all_goals simp
theorem Tryz.fieldKind (k t y m : Int) (r a b : Bool) (w : World) : Sem.run Tryz.prog (Instr.field 50 (.agg #[.int .u8 k, .int .i64 t, .bool r, .int .i64 y, .int .u8 m, .bool a, .bool b]) 0) w = .ok (.int .u8 k) w := by kernel_rfl
attribute [local go_sem] Tryz.fieldKind
def goes (k : Int) : Bool := decide (k = 2) || decide (k = 3) || decide (k = 4)
set_option maxRecDepth 100000 in
set_option maxHeartbeats 1000000 in
theorem go_any {w0 W : World} {l : List Thing} {q : StV} {nv : Nat} {n : InstrD} (h : Lies w0 W l) (i : Nat) (hi : l[i]? = some (stT q)) (hf : StF q nv) (hn : q.L[q.at']? = some n) :
  Calls Tryz.prog 25 #[.pointer (some ⟨q.sb, 0, none⟩)] W fun e W' => e = .returned (.int .i64 (if goes (nextP n q.vars).kind = true then 0 else 4)) ∧ Lies w0 W' (l.set i (stT (if goes (nextP n q.vars).kind = true then { q with at' := q.at' + 1 } else q))) := by
 have hk := nextP_kinds (n := n) q.vars
 have hat := hf.at'
 have hLl := hf.few.1
 have HN := Lib.hid (next_any q nv n W (h.stR i hi) hf hn)
 have HL := Lib.hid h
 have HI := Lib.hid hi
 have hself : l.set i (stT q) = l := by
  have hlt := (List.getElem?_eq_some_iff.1 hi).1
  rw [← (List.getElem?_eq_some_iff.1 hi).2]
  exact List.set_getElem_self hlt
 have HS := Lib.hid hself
 clear hf hn h hi hself
 generalize nextP n q.vars = x at HN hk ⊢
 obtain ⟨kind, tab, row, key, mode, touched, wrote⟩ := x
 simp only at hk ⊢
 rcases hk with rfl | rfl | rfl | rfl | rfl | rfl
 ·go_enter Tryz.func25, Tryz.ntmps25
  go_wp2_with fail
  refine HN.out.mono ?_
  rintro e w2 ⟨he, hf2⟩
  simp only [WantD.val] at he
  subst he
  have HL2 := Lib.hid (HL.out.fr0 hf2)
  clear hf2
  go_wp2_with fail
  go_ret
  exact ⟨rfl, by rw [HS.out]; exact HL2.out⟩
 ·go_enter Tryz.func25, Tryz.ntmps25
  go_wp2_with fail
  refine HN.out.mono ?_
  rintro e w2 ⟨he, hf2⟩
  simp only [WantD.val] at he
  subst he
  have HL2 := Lib.hid (HL.out.fr0 hf2)
  have b2 := ((HL2.out.stR i HI.out).box).cell 2
  have bf := ((HL2.out.stR i HI.out).box).free 2
  simp only [StV.cs, List.getElem?_cons_zero, List.getElem?_cons_succ] at b2
  clear hf2
  go_wp2_with fail
  go_ret
  exact ⟨rfl, HL2.out.stAt i HI.out (q.at' + 1) _ (by omega)⟩
 ·go_enter Tryz.func25, Tryz.ntmps25
  go_wp2_with fail
  refine HN.out.mono ?_
  rintro e w2 ⟨he, hf2⟩
  simp only [WantD.val] at he
  subst he
  have HL2 := Lib.hid (HL.out.fr0 hf2)
  have b2 := ((HL2.out.stR i HI.out).box).cell 2
  have bf := ((HL2.out.stR i HI.out).box).free 2
  simp only [StV.cs, List.getElem?_cons_zero, List.getElem?_cons_succ] at b2
  clear hf2
  go_wp2_with fail
  go_ret
  exact ⟨rfl, HL2.out.stAt i HI.out (q.at' + 1) _ (by omega)⟩
 ·go_enter Tryz.func25, Tryz.ntmps25
  go_wp2_with fail
  refine HN.out.mono ?_
  rintro e w2 ⟨he, hf2⟩
  simp only [WantD.val] at he
  subst he
  have HL2 := Lib.hid (HL.out.fr0 hf2)
  have b2 := ((HL2.out.stR i HI.out).box).cell 2
  have bf := ((HL2.out.stR i HI.out).box).free 2
  simp only [StV.cs, List.getElem?_cons_zero, List.getElem?_cons_succ] at b2
  clear hf2
  go_wp2_with fail
  go_ret
  exact ⟨rfl, HL2.out.stAt i HI.out (q.at' + 1) _ (by omega)⟩
 ·go_enter Tryz.func25, Tryz.ntmps25
  go_wp2_with fail
  refine HN.out.mono ?_
  rintro e w2 ⟨he, hf2⟩
  simp only [WantD.val] at he
  subst he
  have HL2 := Lib.hid (HL.out.fr0 hf2)
  clear hf2
  go_wp2_with fail
  go_ret
  exact ⟨rfl, by rw [HS.out]; exact HL2.out⟩
 ·go_enter Tryz.func25, Tryz.ntmps25
  go_wp2_with fail
  refine HN.out.mono ?_
  rintro e w2 ⟨he, hf2⟩
  simp only [WantD.val] at he
  subst he
  have HL2 := Lib.hid (HL.out.fr0 hf2)
  clear hf2
  go_wp2_with fail
  go_ret
  exact ⟨rfl, by rw [HS.out]; exact HL2.out⟩
end Go.Proofs.YtgpekgnhbccnoaaGreat
namespace Go.Proofs.YtgpekgnhbccnoaaGreat
open Go Go.RowKit

theorem IntsAt.formN {w : World} {a : Option Addr} {n c : Nat} {xs : List Int} (h : IntsAt w (.slice a n c) xs) (hn : 0 < xs.length) : ∃ b off, a = some ⟨b, off, none⟩ ∧ n = xs.length ∧ ∀ j x, xs[j]? = some x → w.cell? ⟨b, off + j, none⟩ = some (.int .i64 x) := by
 obtain ⟨b, off, cap, hv, hc⟩ := h.form hn
 simp only [Value.slice.injEq] at hv
 obtain ⟨rfl, rfl, rfl⟩ := hv
 exact ⟨b, off, rfl, rfl, hc⟩
def SameTo' (xs ys : List Int) (k : Nat) : Prop := xs.take k = ys.take k
set_option maxHeartbeats 400000 in
theorem sameInts_any (a b : Value) (xs ys : List Int) (w : World) (ha : IntsAt w a xs) (hb : IntsAt w b ys) (hl : xs.length ≤ 1000000) (hl2 : ys.length ≤ 1000000) :
  Calls Tryz.prog 18 #[a, b] w fun e w' => e = .returned (.bool (decide (xs = ys))) ∧ Fr w w' Nil := by
 generalize hres : decide (xs = ys) = res
 have HR := Lib.hid hres
 obtain ⟨aa, ac, rfl⟩ := ha.shape
 obtain ⟨ba, bc, rfl⟩ := hb.shape
 have HA := Lib.hid ha
 have HB := Lib.hid hb
 clear ha hb hres
 by_cases hlen : xs.length = ys.length
 ·have HLN := Lib.hid hlen
  rw [← hlen] at HB ⊢
  clear hlen
  go_enter Tryz.func18, Tryz.ntmps18
  go_wp2_with fail
  go_loopw [5] (fun vi wr => ∃ k : Nat, k ≤ xs.length ∧ vi = .int .i64 (k : Int) ∧ SameTo' xs ys k ∧ Fr w wr Nil) (fun vi _ => xs.length - (intOf vi).toNat)
  case atStart => exact ⟨0, by omega, rfl, rfl, Fr.refl _ _⟩
  case round =>
   obtain ⟨k, hk, rfl, hs, hf⟩ := hrel
   have HS := Lib.hid hs
   have HF := Lib.hid hf
   clear hs hf
   by_cases hlt : k < xs.length
   ·have hkl : (k : Int) < (xs.length : Int) := by omega
    obtain ⟨xb, xo, rfl, -, hxc⟩ := HA.out.formN (by omega)
    obtain ⟨yb, yo, rfl, -, hyc⟩ := HB.out.formN (by have := HLN.out; omega)
    have hy : k < ys.length := by have := HLN.out; omega
    have q0 := HF.out.cell (hxc k _ (List.getElem?_eq_getElem hlt)) (fun h => h)
    have q1 := HF.out.cell (hyc k _ (List.getElem?_eq_getElem hy)) (fun h => h)
    have HX : Hid (xs.take (k + 1) = xs.take k ++ [xs[k]] ∧ ys.take (k + 1) = ys.take k ++ [ys[k]]) := ⟨List.take_succ_eq_append_getElem hlt, List.take_succ_eq_append_getElem hy⟩
    have HNE : Hid (xs[k] ≠ ys[k] → res = false) := fun h => by
     rw [← HR.out]
     exact decide_eq_false (fun e => h (by subst e; rfl))
    generalize xs[k] = x at *
    generalize ys[k] = y at *
    clear hxc hyc hy
    cases hb : (x == y) with
    | true =>
     have h1 : (x != y) = false := by simp [bne, hb]
     have HE := Lib.hid (eq_of_beq hb)
     clear hb
     go_wp2_with fail
     go_quiet (fail)
     rename_i nq
     go_wp2_with fail
     go_roundw
     case rel => exact ⟨k + 1, by omega, by go_num, by have h9 := HS.out; unfold SameTo' at h9 ⊢; rw [HX.out.1, HX.out.2, HE.out, h9], HF.out.drewN nq⟩
     case measure => simp [intOf]; omega
    | false =>
     have h1 : (x != y) = true := by simp [bne, hb]
     have HE : Hid (res = false) := HNE.out (fun e => by rw [e] at hb; simp at hb)
     clear hb
     go_wp2_with fail
     go_quiet (fail)
     rename_i nq
     go_wp2_with fail
     go_ret
     exact ⟨by rw [HE.out]; rfl, HF.out.drewN nq⟩
   ·obtain rfl : k = xs.length := by omega
    have HE : Hid (res = true) := by
     have h1 := HS.out
     unfold SameTo' at h1
     rw [List.take_length, HLN.out, List.take_length] at h1
     have : res = true := by rw [← HR.out]; exact decide_eq_true h1
     exact this
    go_wp2_with fail
    go_ret
    exact ⟨by rw [HE.out]; rfl, HF.out⟩
 ·have HE : Hid (res = false) := by
   have : res = false := by rw [← HR.out]; exact decide_eq_false (fun e => hlen (by rw [e]))
   exact this
  have h1 : ((xs.length : Int) != (ys.length : Int)) = true := by simp; omega
  clear hlen
  go_enter Tryz.func18, Tryz.ntmps18
  go_wp2_with fail
  go_ret
  exact ⟨by rw [HE.out]; rfl, Fr.refl _ _⟩
end Go.Proofs.YtgpekgnhbccnoaaGreat
