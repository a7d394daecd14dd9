/-
  The law LockOrder: of those that do not upgrade none is granted a spot ahead of one that asked for it earlier.
  No condition.
-/
import Derived.Test.YtokeciekncincabGreatPkC17
import Derived.Test.YtokeciekncincabGreatPkC42
import Derived.Test.YtokeciekncincabGreatPkC31
import Derived.Test.YtokeciekncincabGreatPkC38
import Derived.Test.YtokeciekncincabGreatPkC6
import Derived.Deep.CutBlock
namespace Go.Proofs.YtokeciekncincabGreat
open Go Go.RowKit Go.Maps

/-- Behind B, not k0, and no block of v. -/
def AtX (B k0 : Nat) (v : Value) (k : Nat) : Prop := B ≤ k ∧ k ≠ k0 ∧ v.ownBlock ≠ some k
def AtO (B : Nat) (v : Value) (k : Nat) : Prop := B ≤ k ∧ v.ownBlock ≠ some k
theorem leave_one {D : LkS} {s : Spot} (h : AtOne s D) (who : Int) : AtOne s (leaveL D who).2 := by
  have h1 := all_leave h who
  exact ⟨fun e he => (h1.1 e he).1, fun e he => (h1.2 e he).1⟩
theorem askd_wf {N : Nat} {D : LkS} (h : DOk N D) (s : Spot) : ∀ x ∈ askd D s, (Lit.int .i64 x).wf = true := fun x hx => by
  obtain ⟨e, he, rfl, _⟩ := mem_askd.1 hx
  exact (h.wf.2 e he).1
theorem askd_len {N : Nat} {D : LkS} (h : DOk N D) (s : Spot) : (askd D s).length ≤ N := by
  have h0 := h.few
  unfold askd restL
  rw [List.length_map]
  have := List.length_filter_le (fun e : LkE => e.s == s && heldL D.H e.who s == 0) D.W
  omega
theorem still_waits (D : LkS) (x : Int) : (waitsL D x).2.2 = stillB D x := by
  unfold waitsL stillB
  cases wishL D.W x <;> rfl
section
variable (cv : Value) (l : List CallK) (sp : Spot) (w : World)
set_option maxRecDepth 100000 in
set_option maxHeartbeats 16000000 in
theorem lorder_main (hc : KCallsAt w cv l) (hl : l.length ≤ 80) (hsp : SWf sp) :
    Calls Tryz.prog 24 #[cv, spV sp] w fun e w' => e = .returned (.bool true) ∧ Fr w w' Nil := by
  obtain ⟨ca, cc, rfl, hcc⟩ := hc.shape
  obtain ⟨w0, hw0⟩ : ∃ w0, w.alloc (.cells #[.int .i64 sp.1, .bool sp.2.1, .int .i64 sp.2.2] 30) = w0 := ⟨_, rfl⟩
  have hf0 : Fr w w0 Nil := by rw [← hw0]; exact (Fr.refl w Nil).alloc _
  have hb0 : Bk w0 w.heap.size 30 [.int .i64 sp.1, .bool sp.2.1, .int .i64 sp.2.2] := by rw [← hw0]; exact Bk.new w _ _
  have cN := new_U 1000 w0
  have hcl80 : ¬ (80 : Int) < (l.length : Int) := by omega
  have HC := Lib.hid (hc.fr0 hf0)
  have HF0 := Lib.hid hf0
  have HB0 := Lib.hid hb0
  have HSPW := Lib.hid hsp
  clear hc hf0 hb0 hsp
  go_enter Tryz.func24, Tryz.ntmps24
  go_wp2_with fail
  refine cN.mono ?_
  rintro e w1 ⟨lb, rfl, hU, hf1⟩
  have HU1 : Hid (LkU w1 lb ⟨max 0 1000, [], []⟩ 0 3 (AtO w0.heap.size (.slice none 0 0))) := hU.weak fun k h => ⟨h, fun h => by cases h⟩
  have HF1 := Lib.hid hf1
  clear cN hU hf1 hw0
  go_wp2_with fail
  go_loopw [6, 7] (fun v6 vi wr => ∃ (i : Nat) (D : LkS) (al : List Int) (va : Option Addr) (n vc : Nat), vi = .int .i64 (i : Int) ∧ v6 = .slice va n vc ∧ i ≤ l.length ∧ Hid (al.length = n) ∧ Hid (askd D sp = al) ∧ Hid (AtOne sp D) ∧ Hid (OwnInts wr 2 (.slice va n vc) al) ∧ Hid (∀ k, (Value.slice va n vc).ownBlock = some k → w0.heap.size ≤ k) ∧ Hid (LkU wr lb D i (3 + 4 * i) (AtO w0.heap.size (.slice va n vc))) ∧ Hid (Fr w0 wr Nil)) (fun _ vi _ => l.length - (intOf vi).toNat)
  case atStart => exact ⟨0, ⟨max 0 1000, [], []⟩, [], none, 0, 0, rfl, rfl, by omega, rfl, (rfl : askd ⟨max 0 1000, [], []⟩ sp = []), ⟨fun e he => (by cases he), fun e he => (by cases he)⟩, World.ownsRow_nil _ _ _ _, (fun k hk => by cases hk), HU1.out, HF1.out⟩
  case round =>
    clear HU1 HF1
    obtain ⟨i, D, al, va, n, vc, rfl, rfl, hi, HALN, HAL, HONE, HOA, HVB, HU, HFR⟩ := hrel
    obtain ⟨wo, rfl⟩ : ∃ wo : World, wo = wr := ⟨_, rfl⟩
    have hzz : w0.heap.size ≤ wo.heap.size := HFR.out.size
    by_cases hlt : i < l.length
    · have hil : (i : Int) < (l.length : Int) := by omega
      obtain ⟨b, off, cap', hvv, hcl⟩ := HC.out.form (by omega)
      simp only [Value.slice.injEq, true_and] at hvv
      obtain ⟨rfl, rfl⟩ := hvv
      obtain ⟨t, ht⟩ : ∃ t, l[i]? = some t := ⟨_, List.getElem?_eq_getElem hlt⟩
      have hcw : ∀ j u, t.vals[j]? = some u → wo.cell? ⟨b, off + i * 6 + j, none⟩ = some u := fun j u hu => HFR.out.cell (hcl i t ht j u hu) (fun h => h)
      have p0 := hcw 0 _ rfl
      have p1 := hcw 1 _ rfl
      have p2 := hcw 2 _ rfl
      have p3 := hcw 3 _ rfl
      have p4 := hcw 4 _ rfl
      have p5 := hcw 5 _ rfl
      simp only [Nat.add_zero] at p0
      have OKT : Hid ((Lit.int .i64 t.who).wf = true ∧ SWf t.s ∧ 0 ≤ t.m) := ⟨t.okw, t.oks, t.okm.1⟩
      clear ht hcw hcl
      obtain ⟨tkd, who, s, m, okk, okw, oks, okm⟩ := t
      dsimp only at p0 p1 p2 p3 p4 p5 OKT 
      clear okk okw oks okm
      have OKW := Lib.hid OKT.out.1
      have OKS := Lib.hid OKT.out.2.1
      have OKM := Lib.hid OKT.out.2.2
      clear OKT
      obtain ⟨kd, hkd⟩ : ∃ kd : Int, tkd.tmod 10 = kd := ⟨_, rfl⟩
      obtain ⟨w5, hw5⟩ : ∃ w5, wo.alloc (.cells #[.int .u8 tkd, .int .i64 who, .int .i64 s.1, .bool s.2.1, .int .i64 s.2.2, .int .u8 m] 33) = w5 := ⟨_, rfl⟩
      have hf5 : Fr wo w5 Nil := by rw [← hw5]; exact (Fr.refl wo Nil).alloc _
      have hb5 : Bk w5 wo.heap.size 33 [.int .u8 tkd, .int .i64 who, .int .i64 s.1, .bool s.2.1, .int .i64 s.2.2, .int .u8 m] := by rw [← hw5]; exact Bk.new wo _ _
      have hz5 : w5.heap.size = wo.heap.size + 1 := by rw [← hw5]; exact World.size_alloc _ _
      have x0 : w5.cell? ⟨wo.heap.size, 0, none⟩ = some (.int .u8 tkd) := hb5.cell 0
      have x1 : w5.cell? ⟨wo.heap.size, 1, none⟩ = some (.int .i64 who) := hb5.cell 1
      have x2 : w5.cell? ⟨wo.heap.size, 2, none⟩ = some (.int .i64 s.1) := hb5.cell 2
      have x3 : w5.cell? ⟨wo.heap.size, 3, none⟩ = some (.bool s.2.1) := hb5.cell 3
      have x4 : w5.cell? ⟨wo.heap.size, 4, none⟩ = some (.int .i64 s.2.2) := hb5.cell 4
      have x5 : w5.cell? ⟨wo.heap.size, 5, none⟩ = some (.int .u8 m) := hb5.cell 5
      have HU5 : Hid (LkU w5 lb D i (3 + 4 * i) (AtX w0.heap.size wo.heap.size (.slice va n vc))) := (HU.out.not fun k h1 h2 => (⟨h1.1, by omega, h1.2⟩ : (AtX w0.heap.size wo.heap.size (.slice va n vc)) k)).fr0 hf5
      have HA5 : Hid (∀ k, w5.heap.size ≤ k → (AtX w0.heap.size wo.heap.size (.slice va n vc)) k) := fun k hk => ⟨by have := HFR.out.size; omega, by omega, fun h => by have := HOA.out.lt k h; omega⟩
      have HOA5 : Hid (OwnInts w5 2 (.slice va n vc) al) := HOA.out.fr hf5 fun _ _ h => h
      have HF5 := Lib.hid (HFR.out.trans0 hf5)
      have HB5 := Lib.hid hb5
      have HZ5 := Lib.hid hz5
      have hN9 : i ≤ 100000 := by omega
      have hK9 : 3 + 4 * i ≤ 1000000000 := by omega
      have HAW : Hid (∀ x ∈ al, (Lit.int .i64 x).wf = true) := by have h9 := askd_wf HU.out.ok sp; rw [HAL.out] at h9; exact h9
      have HALB : Hid (al.length ≤ 80) := by
        have h9 := askd_len HU.out.ok sp
        rw [HAL.out] at h9
        have h8 : al.length ≤ 80 := (by omega)
        exact h8
      have hb00 := HB0.out.fr HFR.out (fun h => h)
      have cD := HU5.out.held who sp OKW.out HSPW.out
      obtain ⟨hd0, hhd0⟩ : ∃ x, heldL D.H who sp = x := ⟨_, rfl⟩
      rw [hhd0] at cD
      have HHD := Lib.hid hhd0
      have r0 : w5.cell? ⟨w.heap.size, 0, none⟩ = some (.int .i64 sp.1) := (HB0.out.fr HF5.out fun h => h).cell 0
      have r1 : w5.cell? ⟨w.heap.size, 1, none⟩ = some (.bool sp.2.1) := (HB0.out.fr HF5.out fun h => h).cell 1
      have r2 : w5.cell? ⟨w.heap.size, 2, none⟩ = some (.int .i64 sp.2.2) := (HB0.out.fr HF5.out fun h => h).cell 2
      clear hf5 hb5 hz5 hhd0 hb00
      go_wp2_with fail
      refine cD.mono ?_
      rintro e w5' ⟨rfl, hf5⟩
      have HU5' := Lib.hid (HU5.out.fr0 hf5)
      have HB5' := Lib.hid (HB5.out.fr hf5 fun h => h)
      have HF5' := Lib.hid (HF5.out.trans0 hf5)
      have HA5' : Hid (∀ k, w5'.heap.size ≤ k → (AtX w0.heap.size wo.heap.size (.slice va n vc)) k) := fun k hk => HA5.out k (Nat.le_trans hf5.size hk)
      have HOA5' : Hid (OwnInts w5' 2 (.slice va n vc) al) := HOA5.out.fr hf5 fun _ _ h => h
      clear HU5 HB5 HF5 HA5 HZ5 cD hf5 x0 x1 x2 x3 x4 x5 r0 r1 r2 HOA5
      clear hw5 w5
      obtain ⟨w5, rfl⟩ : ∃ w5 : World, w5 = w5' := ⟨_, rfl⟩
      have HU5 := HU5'
      have HB5 := HB5'
      have HF5 := HF5'
      have HA5 := HA5'
      have HOA5 := HOA5'
      clear HU5' HB5' HF5' HA5' HOA5'
      have x0 : w5.cell? ⟨wo.heap.size, 0, none⟩ = some (.int .u8 tkd) := HB5.out.cell 0
      have x1 : w5.cell? ⟨wo.heap.size, 1, none⟩ = some (.int .i64 who) := HB5.out.cell 1
      have x2 : w5.cell? ⟨wo.heap.size, 2, none⟩ = some (.int .i64 s.1) := HB5.out.cell 2
      have x3 : w5.cell? ⟨wo.heap.size, 3, none⟩ = some (.bool s.2.1) := HB5.out.cell 3
      have x4 : w5.cell? ⟨wo.heap.size, 4, none⟩ = some (.int .i64 s.2.2) := HB5.out.cell 4
      have x5 : w5.cell? ⟨wo.heap.size, 5, none⟩ = some (.int .u8 m) := HB5.out.cell 5
      have r0 : w5.cell? ⟨w.heap.size, 0, none⟩ = some (.int .i64 sp.1) := (HB0.out.fr HF5.out fun h => h).cell 0
      have r1 : w5.cell? ⟨w.heap.size, 1, none⟩ = some (.bool sp.2.1) := (HB0.out.fr HF5.out fun h => h).cell 1
      have r2 : w5.cell? ⟨w.heap.size, 2, none⟩ = some (.int .i64 sp.2.2) := (HB0.out.fr HF5.out fun h => h).cell 2
      go_upto_block 2 with fail
      go_cut [6, 10, 11, 12] from 45 to 105 (fun v6 v10 _ _ wx => ∃ (D2 : LkS) (A wk : List Int) (a2 : Option Addr) (n2 c2 : Nat) (a3 : Option Addr) (n3 c3 : Nat), v6 = .slice a2 n2 c2 ∧ v10 = .slice a3 n3 c3 ∧ Hid (A.length = n2) ∧ Hid (wk.length = n3) ∧ Hid (OrdStep who sp A wk D2) ∧ Hid (AtOne sp D2) ∧ Hid (A.length ≤ al.length + 1) ∧ Hid (wk.length ≤ 100000) ∧ Hid (∀ x ∈ A, (Lit.int .i64 x).wf = true) ∧ Hid (OwnInts wx 2 (.slice a2 n2 c2) A) ∧ Hid (OwnInts wx 2 (.slice a3 n3 c3) wk) ∧ Hid (LkU wx lb D2 (i + 1) (3 + 4 * (i + 1)) (Low w0.heap.size)) ∧ Hid (Bk wx wo.heap.size 33 [.int .u8 tkd, .int .i64 who, .int .i64 s.1, .bool s.2.1, .int .i64 s.2.2, .int .u8 m]) ∧ Hid (Fr w0 wx Nil))
      case first =>
        rcases kinds kd with (h6 | h9 | h7 | h8) | ⟨h6, h9, h7, h8⟩
        · subst h6
          go_wp2_with fail
          refine (HU5.out.free who sp hN9 OKW.out HSPW.out).mono ?_
          rintro e w6 ⟨ov, rfl, h1, hU, hf⟩
          obtain ⟨oa, oc, rfl⟩ := h1.shape
          have HU6 := Lib.hid hU
          have HF6 := Lib.hid hf
          have HOA6 : Hid (OwnInts w6 2 (.slice va n vc) al) := HOA5.out.fr hf fun k hk h => h.2.2 hk
          have hwl : (freeL D who sp).1.1.length ≤ 100000 := (free_len HU.out.ok who sp hN9)
          have HORD := Lib.hid (ord_free HU.out.ok.inv HONE.out who)
          rw [HAL.out] at HORD
          have HO1 := Lib.hid h1
          clear hU hf h1
          go_wp2_with fail
          go_meet
          exact ⟨_, al, _, va, n, vc, oa, _, oc, rfl, rfl, HALN.out, rfl, HORD.out, (all_free HONE.out who sp), (Nat.le_succ _), hwl, HAW.out, HOA6.out, HO1.out, (HU6.out.more (Nat.le_succ _) (by omega)).weak (fun _ h => h.1), (HB5.out.fr HF6.out fun h => h.2.1 rfl), low_back HF5.out HF6.out fun k h => h.1⟩
        · subst h9
          go_wp2_with fail
          refine (HU5.out.free who sp hN9 OKW.out HSPW.out).mono ?_
          rintro e w6 ⟨ov, rfl, h1, hU, hf⟩
          obtain ⟨oa, oc, rfl⟩ := h1.shape
          have HU6 := Lib.hid hU
          have HF6 := Lib.hid hf
          have HOA6 : Hid (OwnInts w6 2 (.slice va n vc) al) := HOA5.out.fr hf fun k hk h => h.2.2 hk
          have hwl : (freeL D who sp).1.1.length ≤ 100000 := (free_len HU.out.ok who sp hN9)
          have HORD := Lib.hid (ord_free HU.out.ok.inv HONE.out who)
          rw [HAL.out] at HORD
          have HO1 := Lib.hid h1
          clear hU hf h1
          go_wp2_with fail
          go_meet
          exact ⟨_, al, _, va, n, vc, oa, _, oc, rfl, rfl, HALN.out, rfl, HORD.out, (all_free HONE.out who sp), (Nat.le_succ _), hwl, HAW.out, HOA6.out, HO1.out, (HU6.out.more (Nat.le_succ _) (by omega)).weak (fun _ h => h.1), (HB5.out.fr HF6.out fun h => h.2.1 rfl), low_back HF5.out HF6.out fun k h => h.1⟩
        · subst h7
          go_wp2_with fail
          refine (HU5.out.cancel who hN9 OKW.out).mono ?_
          rintro e w6 ⟨ov, rfl, h1, hU, hf⟩
          obtain ⟨oa, oc, rfl⟩ := h1.shape
          have HU6 := Lib.hid hU
          have HF6 := Lib.hid hf
          have HOA6 : Hid (OwnInts w6 2 (.slice va n vc) al) := HOA5.out.fr hf fun k hk h => h.2.2 hk
          have hwl : (cancelL D who).1.1.length ≤ 100000 := (cancel_len HU.out.ok who hN9)
          have HORD := Lib.hid (ord_cancel HU.out.ok.inv HONE.out who)
          rw [HAL.out] at HORD
          have HO1 := Lib.hid h1
          clear hU hf h1
          go_wp2_with fail
          go_meet
          exact ⟨_, al, _, va, n, vc, oa, _, oc, rfl, rfl, HALN.out, rfl, HORD.out, (all_cancel HONE.out who), (Nat.le_succ _), hwl, HAW.out, HOA6.out, HO1.out, (HU6.out.more (Nat.le_succ _) (by omega)).weak (fun _ h => h.1), (HB5.out.fr HF6.out fun h => h.2.1 rfl), low_back HF5.out HF6.out fun k h => h.1⟩
        · subst h8
          go_wp2_with fail
          refine (HU5.out.leave who hN9 OKW.out).mono ?_
          rintro e w6 ⟨ov, rfl, h1, hU, hf⟩
          obtain ⟨oa, oc, rfl⟩ := h1.shape
          have HU6 := Lib.hid hU
          have HF6 := Lib.hid hf
          have HOA6 : Hid (OwnInts w6 2 (.slice va n vc) al) := HOA5.out.fr hf fun k hk h => h.2.2 hk
          have hwl : (leaveL D who).1.length ≤ 100000 := (leave_len HU.out.ok who hN9)
          have HORD := Lib.hid (ord_leave HU.out.ok.inv HONE.out who)
          rw [HAL.out] at HORD
          have HO1 := Lib.hid h1
          clear hU hf h1
          go_wp2_with fail
          go_meet
          exact ⟨_, al, _, va, n, vc, oa, _, oc, rfl, rfl, HALN.out, rfl, HORD.out, (leave_one HONE.out who), (Nat.le_succ _), hwl, HAW.out, HOA6.out, HO1.out, (HU6.out.more (Nat.le_succ _) (by omega)).weak (fun _ h => h.1), (HB5.out.fr HF6.out fun h => h.2.1 rfl), low_back HF5.out HF6.out fun k h => h.1⟩
        · have b6 : (kd == 6) = false := by rw [beq_eq_false_iff_ne]; exact h6
          have b9 : (kd == 9) = false := by rw [beq_eq_false_iff_ne]; exact h9
          have b7 : (kd == 7) = false := by rw [beq_eq_false_iff_ne]; exact h7
          have b8 : (kd == 8) = false := by rw [beq_eq_false_iff_ne]; exact h8
          have cA := HU5.out.ask HA5.out who sp m hN9 hK9 OKW.out HSPW.out OKM.out
          have hord := ord_ask (s := sp) HU.out.ok.inv who m
          have hat := all_ask HONE.out who sp m fun _ => rfl
          rw [HAL.out, HHD.out] at hord
          obtain ⟨D6, hD6⟩ : ∃ x, (askL D who sp m).2 = x := ⟨_, rfl⟩
          obtain ⟨is, his⟩ : ∃ x, (askL D who sp m).1.1 = x := ⟨_, rfl⟩
          obtain ⟨er, hher⟩ : ∃ x, (askL D who sp m).1.2 = x := ⟨_, rfl⟩
          rw [show (askL D who sp m).1 = ((askL D who sp m).1.1, (askL D who sp m).1.2) from rfl] at hord
          rw [hD6] at hord hat cA
          rw [his] at hord cA
          rw [hher] at hord cA
          have HORD := Lib.hid hord
          have HAT6 : Hid (AtOne sp D6) := hat
          clear h6 h9 h7 h8 hD6 his hher hord hat
          go_wp2_with fail
          refine cA.mono ?_
          rintro e w6 ⟨rfl, hU, hf⟩
          have HU6 := Lib.hid hU
          have HOA6 : Hid (OwnInts w6 2 (.slice va n vc) al) := HOA5.out.fr hf fun k hk h => h.2.2 hk
          have HB6 := Lib.hid (HB5.out.fr hf fun h => h.2.1 rfl)
          have HF06 : Hid (Fr w0 w6 Nil) := low_back HF5.out hf fun k h => h.1
          have y1 : w6.cell? ⟨wo.heap.size, 1, none⟩ = some (.int .i64 who) := HB6.out.cell 1
          clear hU hf cA b6 b9 b7 b8 x0 x1 x2 x3 x4 x5 r0 r1 r2
          cases is with
          | true =>
            have HOST : Hid (OrdStep who sp al [] D6) := by
              have h1 := HORD.out.1
              rw [if_neg (by rintro ⟨h, _⟩; cases h)] at h1
              exact h1
            by_cases hh0 : hd0 = 0
            · have hal0 : al.length = 0 := by rw [HORD.out.2 rfl hh0]; rfl
              have hn0 : n = 0 := by have := HALN.out; omega
              subst hh0
              subst hn0
              clear hal0
              go_wp2_with fail
              go_meet
              exact ⟨D6, al, [], va, _, vc, none, 0, 0, rfl, rfl, HALN.out, rfl, HOST.out, HAT6.out, (Nat.le_succ _), (Nat.zero_le _), HAW.out, HOA6.out, World.ownsRow_nil _ _ _ _, HU6.out.weak (fun _ h => h.1), HB6.out, HF06.out⟩
            · have bh : (hd0 == 0) = false := by rw [beq_eq_false_iff_ne]; exact hh0
              clear hh0
              go_wp2_with fail
              go_meet
              exact ⟨D6, al, [], va, _, vc, none, 0, 0, rfl, rfl, HALN.out, rfl, HOST.out, HAT6.out, (Nat.le_succ _), (Nat.zero_le _), HAW.out, HOA6.out, World.ownsRow_nil _ _ _ _, HU6.out.weak (fun _ h => h.1), HB6.out, HF06.out⟩
          | false =>
            by_cases he0 : er = 0
            · subst he0
              by_cases hh0 : hd0 = 0
              · subst hh0
                have HOST : Hid (OrdStep who sp (al ++ [who]) [] D6) := by
                  have h1 := HORD.out.1
                  rw [if_pos ⟨rfl, rfl⟩] at h1
                  exact h1
                have HOR : Hid ((w6.alloc (.cells #[.int .i64 who] 2)).ownsRow 0 2 1 (.slice va n vc) n (al.map (Value.int .i64))) := by
                  have h1 := HOA6.out
                  unfold OwnInts at h1
                  rw [HALN.out] at h1
                  exact World.ownsRow.alloc h1 _
                have HONE1 := Lib.hid (one_new w6 who)
                have HON1 : Hid (∀ u ∈ [Value.int .i64 who], u.oneCell' = true) := fun u hu => by rw [List.mem_singleton] at hu; subst hu; rfl
                have HLB : Hid (n + 1 ≤ 1000000) := by have h9 : n + 1 ≤ 1000000 := (by have := HALN.out; have := HALB.out; omega); exact h9
                go_wp2_with (at_builtin; refine wpList_app _ rfl _ _ 40 rfl sl64 (.slice va n vc) rfl HOR.out _ rfl HONE1.out HON1.out HLB.out ?_)
                intro ga gc W3 ho3 hg3 hb3
                have hfw : Fr w6 W3 (fun k => (Value.slice va n vc).ownBlock = some k) := ((((Fr.refl w6 Nil).alloc (.cells #[.int .i64 who] 2)).of_nil).grown hg3 fun k hk _ => hk)
                have HOW : Hid (OwnInts W3 2 (.slice ga (n + 1) gc) (al ++ [who])) := by
                  show World.ownsRow _ _ _ _ _ _ _
                  rw [List.length_append, HALN.out, List.length_singleton, List.map_append]
                  exact ho3
                have HUW : Hid (LkU W3 lb D6 (i + 1) (3 + 4 * i + 4) (AtX w0.heap.size wo.heap.size (.slice va n vc))) := HU6.out.fr hfw fun k h1 h2 => h1.2.2 h2
                have HBW := Lib.hid (HB6.out.fr hfw fun h => by have h1 := HOA.out.lt _ h; omega)
                have HFW : Hid (Fr w0 W3 Nil) := HF06.out.trans hfw fun k hk h => by have := HVB.out k h; omega
                have HAW2 : Hid (∀ x ∈ al ++ [who], (Lit.int .i64 x).wf = true) := fun x hx => by
                  rcases List.mem_append.1 hx with hx | hx
                  · exact HAW.out x hx
                  · rw [List.mem_singleton] at hx; subst hx; exact OKW.out
                clear ho3 hg3 hb3 hfw
                go_wp2_with fail
                go_meet
                exact ⟨D6, al ++ [who], [], ga, n + 1, gc, none, 0, 0, rfl, rfl, (by rw [List.length_append, HALN.out]; rfl), rfl, HOST.out, HAT6.out, (by rw [List.length_append]; exact Nat.le_refl _), (Nat.zero_le _), HAW2.out, HOW.out, World.ownsRow_nil _ _ _ _, HUW.out.weak (fun _ h => h.1), HBW.out, HFW.out⟩
              · have bh : (hd0 == 0) = false := by rw [beq_eq_false_iff_ne]; exact hh0
                have HOST : Hid (OrdStep who sp al [] D6) := by
                  have h1 := HORD.out.1
                  rw [if_neg (by rintro ⟨_, h⟩; exact hh0 h)] at h1
                  exact h1
                clear hh0
                go_wp2_with fail
                go_meet
                exact ⟨D6, al, [], va, _, vc, none, 0, 0, rfl, rfl, HALN.out, rfl, HOST.out, HAT6.out, (Nat.le_succ _), (Nat.zero_le _), HAW.out, HOA6.out, World.ownsRow_nil _ _ _ _, HU6.out.weak (fun _ h => h.1), HB6.out, HF06.out⟩
            · have be : (er == 0) = false := by rw [beq_eq_false_iff_ne]; exact he0
              have HOST : Hid (OrdStep who sp al [] D6) := by
                have h1 := HORD.out.1
                rw [if_neg (by rintro ⟨h, _⟩; exact he0 (by injection h))] at h1
                exact h1
              clear he0
              go_wp2_with fail
              go_meet
              exact ⟨D6, al, [], va, _, vc, none, 0, 0, rfl, rfl, HALN.out, rfl, HOST.out, HAT6.out, (Nat.le_succ _), (Nat.zero_le _), HAW.out, HOA6.out, World.ownsRow_nil _ _ _ _, HU6.out.weak (fun _ h => h.1), HB6.out, HF06.out⟩
      case rest =>
        obtain ⟨D2, A, wk, a2, n2, c2, a3, n3, c3, rfl, rfl, HAN, HWN, HORD, HAT, HAL2, HWL, HAWF, HOA2, HOW2, HU2, HBX, HW2⟩ := hcut
        have hN2 : i + 1 ≤ 100000 := by omega
        have hA81 : A.length ≤ 81 := by have := HAL2.out; have := HALB.out; omega
        have hn2 : n2 ≤ 81 := by have := HAN.out; omega
        clear HU HONE HOA HVB HU5 HB5 HF5 HA5 HOA5 x0 x1 x2 x3 x4 x5 r0 r1 r2 hkd HHD HAL HALN HAW HALB HAL2
        go_wp2_with fail
        go_loopw [13, 14] (fun v13 vk wr => ∃ (k n4 : Nat) (a4 : Option Addr) (c4 : Nat), vk = .int .i64 (k : Int) ∧ k ≤ n2 ∧ v13 = .slice a4 n4 c4 ∧ Hid (((A.take k).filter (stillB D2)).length = n4) ∧ Hid (OwnInts wr 2 (.slice a4 n4 c4) ((A.take k).filter (stillB D2))) ∧ Hid (∀ b, (Value.slice a4 n4 c4).ownBlock = some b → wc.heap.size ≤ b) ∧ Hid (Fr wc wr Nil)) (fun _ vk _ => n2 - (intOf vk).toNat)
        case atStart => exact ⟨0, 0, none, 0, by go_num, by omega, rfl, rfl, World.ownsRow_nil _ _ _ _, (fun b hb => by cases hb), Fr.refl _ _⟩
        case round =>
          obtain ⟨k, n4, a4, c4, rfl, hk, rfl, HLN, HLO, HLB, HG⟩ := hrel
          obtain ⟨wi, rfl⟩ : ∃ wi : World, wi = wr := ⟨_, rfl⟩
          by_cases hlk : k < n2
          · have hkl : (k : Int) < (n2 : Int) := by omega
            have hkA : k < A.length := by have := HAN.out; omega
            obtain ⟨x, hx⟩ : ∃ x, A[k]? = some x := ⟨_, List.getElem?_eq_getElem hkA⟩
            obtain ⟨b2, cap2, hvv2, _⟩ := HOA2.out.form (by omega)
            rw [HAN.out] at hvv2
            simp only [Value.slice.injEq, true_and] at hvv2
            obtain ⟨rfl, rfl⟩ := hvv2
            have q0 := HG.out.cell (HOA2.out.cell HAN.out.symm k hkA) (fun h => h)
            rw [List.getD_eq_getElem?_getD, hx] at q0
            simp only [Option.getD_some] at q0
            have HX := Lib.hid hx
            have hxw := HAWF.out x (List.mem_iff_getElem?.2 ⟨k, hx⟩)
            have cW := (HU2.out.fr0 HG.out).waits x hN2 hxw
            have HTK : Hid ((A.take (k + 1)).filter (stillB D2) = (A.take k).filter (stillB D2) ++ if stillB D2 x = true then [x] else []) := by
              show _ = _
              rw [List.take_add_one, hx, List.filter_append]
              refine congrArg _ ?_
              simp only [Option.toList_some, List.filter_cons, List.filter_nil]
            have hst := still_waits D2 x
            obtain ⟨ws, wm, wb, hws⟩ : ∃ ws wm wb, waitsL D2 x = (ws, wm, wb) := ⟨_, _, _, rfl⟩
            rw [hws] at cW hst
            dsimp only at cW hst
            have HST := Lib.hid hst
            have hlb4 : n4 ≤ 81 := by
              have h1 := HLN.out
              have h2 := List.length_filter_le (stillB D2) (A.take k)
              rw [List.length_take] at h2
              omega
            clear hx hxw hst hws
            go_wp2_with fail
            refine cW.mono ?_
            rintro e w7 ⟨rfl, hf7⟩
            obtain ⟨w8, hw8⟩ : ∃ w8, w7.alloc (.cells #[.int .i64 ws.1, .bool ws.2.1, .int .i64 ws.2.2] 30) = w8 := ⟨_, rfl⟩
            have hf8 : Fr wi w8 Nil := by rw [← hw8]; exact hf7.alloc _
            have HG8 := Lib.hid (HG.out.trans0 hf8)
            have HLO8 : Hid (OwnInts w8 2 (.slice a4 n4 c4) ((A.take k).filter (stillB D2))) := HLO.out.fr hf8 fun _ _ h => h
            replace q0 : w8.cell? ⟨b2, k, none⟩ = some (.int .i64 x) := hf8.cell q0 (fun h => h)
            have y1 : w8.cell? ⟨wo.heap.size, 1, none⟩ = some (.int .i64 who) := (HBX.out.fr HG8.out fun h => h).cell 1
            have HF8 := Lib.hid hf8
            clear hf7 hf8 cW
            cases wb with
            | true =>
              have HOR : Hid ((w8.alloc (.cells #[.int .i64 x] 2)).ownsRow 0 2 1 (.slice a4 n4 c4) n4 (((A.take k).filter (stillB D2)).map (Value.int .i64))) := by
                have h1 := HLO8.out
                unfold OwnInts at h1
                rw [HLN.out] at h1
                exact World.ownsRow.alloc h1 _
              have HONE1 := Lib.hid (one_new w8 x)
              have HON1 : Hid (∀ u ∈ [Value.int .i64 x], u.oneCell' = true) := fun u hu => by rw [List.mem_singleton] at hu; subst hu; rfl
              have HLBB : Hid (n4 + 1 ≤ 1000000) := by have h9 : n4 + 1 ≤ 1000000 := (by omega); exact h9
              go_wp2_with (at_builtin; refine wpList_app _ rfl _ _ 40 rfl sl64 (.slice a4 n4 c4) rfl HOR.out _ rfl HONE1.out HON1.out HLBB.out ?_)
              intro ga gc W3 ho3 hg3 hb3
              have hfw : Fr w8 W3 (fun k => (Value.slice a4 n4 c4).ownBlock = some k) := ((((Fr.refl w8 Nil).alloc (.cells #[.int .i64 x] 2)).of_nil).grown hg3 fun k hk _ => hk)
              have HGW : Hid (Fr wc W3 Nil) := HG8.out.trans hfw fun k hk h => by have := HLB.out k h; omega
              have HNB : Hid (∀ b, (Value.slice ga (n4 + 1) gc).ownBlock = some b → wc.heap.size ≤ b) := fun b hb => by
                rcases hb3 with h | h
                · exact HLB.out b (h.symm.trans hb)
                · rw [h] at hb
                  cases hb
                  have h1 := HG8.out.size
                  omega
              have HTT : Hid ((A.take (k + 1)).filter (stillB D2) = (A.take k).filter (stillB D2) ++ [x]) := by
                show _ = _
                rw [HTK.out, ← HST.out, if_pos rfl]
              have HLOW : Hid (OwnInts W3 2 (.slice ga (n4 + 1) gc) ((A.take (k + 1)).filter (stillB D2))) := by
                show World.ownsRow _ _ _ _ _ _ _
                rw [HTT.out, List.length_append, HLN.out, List.length_singleton, List.map_append]
                exact ho3
              clear ho3 hg3 hb3 hfw hw8
              go_wp2_with fail
              go_roundw
              case rel => exact ⟨k + 1, n4 + 1, ga, gc, by go_num, by omega, rfl, (by rw [HTT.out, List.length_append, HLN.out]; rfl), HLOW.out, HNB.out, HGW.out⟩
              case measure => simp [intOf]; omega
            | false =>
              have HTT : Hid ((A.take (k + 1)).filter (stillB D2) = (A.take k).filter (stillB D2)) := by
                show _ = _
                rw [HTK.out, ← HST.out, if_neg (by decide), List.append_nil]
              have hps : x ≠ who → n4 = 0 := fun hne => by
                apply Classical.byContradiction
                intro h0
                refine hne (HORD.out.passed HX.out HST.out.symm fun h1 => h0 ?_)
                rw [← HLN.out, h1]; rfl
              cases hxn : (x != who) with
              | false =>
                clear hps
                go_wp2_with fail
                go_quiet (fail)
                rename_i nq
                have HGq := Lib.hid (HG8.out.trans0 (frq w8 nq))
                have HLOq : Hid (OwnInts (w8.drewN nq) 2 (.slice a4 n4 c4) ((A.take k).filter (stillB D2))) := HLO8.out.fr (frq w8 nq) fun _ _ h => h
                go_wp2_with fail
                go_roundw
                case rel => exact ⟨k + 1, n4, a4, c4, by go_num, by omega, rfl, (by rw [HTT.out]; exact HLN.out), (by rw [HTT.out]; exact HLOq.out), HLB.out, HGq.out⟩
                case measure => simp [intOf]; omega
              | true =>
                have h4 := hps (by rwa [bne_iff_ne] at hxn)
                subst h4
                clear hps
                go_wp2_with fail
                go_quiet (fail)
                rename_i nq
                have HGq := Lib.hid (HG8.out.trans0 (frq w8 nq))
                have HLOq : Hid (OwnInts (w8.drewN nq) 2 (.slice a4 0 c4) ((A.take k).filter (stillB D2))) := HLO8.out.fr (frq w8 nq) fun _ _ h => h
                go_wp2_with fail
                go_roundw
                case rel => exact ⟨k + 1, 0, a4, c4, by go_num, by omega, rfl, (by rw [HTT.out]; exact HLN.out), (by rw [HTT.out]; exact HLOq.out), HLB.out, HGq.out⟩
                case measure => simp [intOf]; omega
          · obtain rfl : k = n2 := by omega
            have HLE : Hid ((A.take k).filter (stillB D2) = askd D2 sp) := by
              show _ = _
              rw [List.take_of_length_le (by have := HAN.out; omega)]
              exact HORD.out.left
            go_wp2_with fail
            go_loopw [18] (fun vj wr => ∃ j : Nat, vj = .int .i64 (j : Int) ∧ j ≤ n3 ∧ Hid (Fr wi wr Nil)) (fun vj _ => n3 - (intOf vj).toNat)
            case atStart => exact ⟨0, by go_num, by omega, Fr.refl _ _⟩
            case round =>
              obtain ⟨j, rfl, hj, HJ⟩ := hrel
              obtain ⟨wj, rfl⟩ : ∃ wj : World, wj = wr := ⟨_, rfl⟩
              have hn3 : n3 ≤ 100000 := by have := HWN.out; have := HWL.out; omega
              have HGJ := Lib.hid (HG.out.trans0 HJ.out)
              by_cases hlj : j < n3
              · have hjl : (j : Int) < (n3 : Int) := by omega
                have hjA : j < wk.length := by have := HWN.out; omega
                obtain ⟨x, hx⟩ : ∃ x, wk[j]? = some x := ⟨_, List.getElem?_eq_getElem hjA⟩
                obtain ⟨b3, cap3, hvv3, _⟩ := HOW2.out.form (by omega)
                rw [HWN.out] at hvv3
                simp only [Value.slice.injEq, true_and] at hvv3
                obtain ⟨rfl, rfl⟩ := hvv3
                have q00 := HOW2.out.cell HWN.out.symm j hjA
                rw [List.getD_eq_getElem?_getD, hx] at q00
                simp only [Option.getD_some] at q00
                have HQ0 := Lib.hid q00
                have q0 := HGJ.out.cell q00 (fun h => h)
                obtain ⟨hwn, hh0⟩ := HORD.out.woken x (List.mem_iff_getElem?.2 ⟨j, hx⟩)
                obtain ⟨f, hf, hfw, _, _⟩ := heldL_in hh0
                have hxw : (Lit.int .i64 x).wf = true := by rw [← hfw]; exact (HU2.out.ok.wf.1 f hf).1
                have cW := (HU2.out.fr0 HGJ.out).waits x hN2 hxw
                rw [show waitsL D2 x = ((0, false, 0), 0, false) by unfold waitsL; rw [hwn]] at cW
                have HXW := Lib.hid hxw
                have bh : (heldL D2.H x sp == 0) = false := by rw [beq_eq_false_iff_ne]; exact hh0
                obtain ⟨hv, hhv⟩ : ∃ v, heldL D2.H x sp = v := ⟨_, rfl⟩
                rw [hhv] at bh
                have HHV := Lib.hid hhv
                clear hx q00 hwn hh0 hf hfw hxw hhv
                go_wp2_with fail
                refine cW.mono ?_
                rintro e w7 ⟨rfl, hf7⟩
                have hf8 := hf7.alloc (.cells #[.int .i64 0, .bool false, .int .i64 0] 30)
                have HGJ8 := Lib.hid (HGJ.out.trans0 hf8)
                have HJ8 := Lib.hid (HJ.out.trans0 hf8)
                clear hf7 hf8 cW q0
                go_wp2_with fail
                obtain ⟨w8, hw8⟩ : ∃ w8, w7.alloc (.cells #[.int .i64 0, .bool false, .int .i64 0] 30) = w8 := ⟨_, rfl⟩
                rw [hw8] at HGJ8 HJ8 ⊢
                clear hw8
                have hbx := (HB0.out.fr HW2.out (fun h => h)).fr HGJ8.out (fun h => h)
                have z0 : ∀ w', KeptN w8 w' → w'.cell? ⟨b3, j, none⟩ = some (.int .i64 x) := KeptN.cell (HGJ8.out.cell HQ0.out (fun h => h))
                have z2 : ∀ w', KeptN w8 w' → w'.cell? ⟨w.heap.size, 0, none⟩ = some (.int .i64 sp.1) := KeptN.cell (hbx.cell 0)
                have z3 : ∀ w', KeptN w8 w' → w'.cell? ⟨w.heap.size, 1, none⟩ = some (.bool sp.2.1) := KeptN.cell (hbx.cell 1)
                have z4 : ∀ w', KeptN w8 w' → w'.cell? ⟨w.heap.size, 2, none⟩ = some (.int .i64 sp.2.2) := KeptN.cell (hbx.cell 2)
                have z5 : ∀ w', KeptN w8 w' → (hv == 0) = false := fun _ _ => bh
                clear hbx bh
                refine wp_region_sink 11 (KeptN w8) (by kernel_rfl) ?_
                have hSa : KeptN w8 w8.drew := KeptN.start w8
                refine tkA 0 hSa ?_
                refine tkA 1 hSa ?_
                refine tkA 2 hSa ?_
                refine tkA 3 hSa ?_
                refine tkA 4 hSa ?_
                refine tkA 5 hSa ?_
                try simp only [Act.put, sA, sB, sC]
                refine tkA 6 hSa ?_ (hy := by intro _ w; have cz0 := z0 _ w; go_simp <;> with_reducible rfl)
                try simp only [Act.put, sA, sB, sC]
                refine tkA 7 hSa ?_ (hy := by intro _ w; have cz2 := z2 _ w; have cz3 := z3 _ w; have cz4 := z4 _ w; go_simp <;> with_reducible rfl)
                try simp only [Act.put, sA, sB, sC]
                refine on1 8 fun K hK => ?_
                go_simp
                have cH := ((HU2.out.fr0 HGJ8.out).fr0 hSa.fr).held x sp HXW.out HSPW.out
                rw [HHV.out] at cH
                refine cH.mono ?_
                rintro e w9 ⟨rfl, hf9⟩
                have hSb : KeptN w8 w9 := hSa.next hf9
                refine hK.out _ _ hSb ?_
                clear hK K cH
                try simp only [Act.put, sA, sB, sC]
                refine tkA 9 hSb ?_ (hy := by intro _ w; have cz5 := z5 _ w; go_simp <;> with_reducible rfl)
                try simp only [Act.put, sA, sB, sC]
                refine tkA 10 hSb ?_
                try simp only [Act.put, sA, sB, sC]
                refine wpAnyS_done (by kernel_rfl) ?_
                have HJ9 := Lib.hid (HJ8.out.trans0 hSb.fr)
                clear hSa hSb hf9 z0 z2 z3 z4 z5
                go_wp2_with fail
                go_roundw
                case rel => exact ⟨j + 1, by go_num, by omega, HJ9⟩
                case measure => simp [intOf]; omega
              · obtain rfl : j = n3 := by omega
                have HUn : Hid (LkU wj lb D2 (i + 1) (3 + 4 * (i + 1)) (AtO w0.heap.size (.slice a4 n4 c4))) := (HU2.out.not fun k h1 h2 => (⟨h1, fun h => by have := HLB.out k h; omega⟩ : AtO w0.heap.size (.slice a4 n4 c4) k)).fr0 HGJ.out
                have HLOn : Hid (OwnInts wj 2 (.slice a4 n4 c4) (askd D2 sp)) := by
                  have h1 := HLO.out.fr HJ.out fun _ _ h => h
                  rw [HLE.out] at h1
                  exact h1
                have HLNn : Hid ((askd D2 sp).length = n4) := by rw [← HLE.out]; exact HLN
                have HFn := Lib.hid (HW2.out.trans0 HGJ.out)
                have HVn : Hid (∀ k, (Value.slice a4 n4 c4).ownBlock = some k → w0.heap.size ≤ k) := fun k hk => Nat.le_trans HW2.out.size (HLB.out k hk)
                go_wp2_with fail
                go_roundw
                case rel => exact ⟨i + 1, D2, _, a4, n4, c4, by go_num, rfl, by omega, HLNn.out, rfl, HAT.out, HLOn.out, HVn.out, HUn.out, HFn.out⟩
                case measure => simp [intOf]; omega
    · obtain rfl : i = l.length := by omega
      go_wp2_with fail
      refine (works_any wo).mono ?_
      rintro e w9 ⟨rfl, hf9⟩
      have HF9 := Lib.hid ((HF0.out.trans0 HFR.out).trans0 hf9)
      clear hf9
      go_wp2_with fail
      go_ret
      exact ⟨rfl, HF9.out⟩
set_option maxRecDepth 100000 in
set_option maxHeartbeats 1000000 in
theorem lorder_any (hc : KCallsAt w cv l) (hsp : SWf sp) :
    Calls Tryz.prog 24 #[cv, spV sp] w fun e w' => e = .returned (.bool true) ∧ Fr w w' Nil := by
  by_cases hl : l.length ≤ 80
  · exact lorder_main cv l sp w hc hl hsp
  · obtain ⟨ca, cc, rfl, hcc⟩ := hc.shape
    have h1 : (80 : Int) < (l.length : Int) := by omega
    have hf0 := (Fr.refl w Nil).alloc (.cells #[.int .i64 sp.1, .bool sp.2.1, .int .i64 sp.2.2] 30)
    have HF0 := Lib.hid hf0
    clear hc hl hf0
    go_enter Tryz.func24, Tryz.ntmps24
    go_wp2_with fail
    refine (works_any _).mono ?_
    rintro e w9 ⟨rfl, hf9⟩
    have HF9 := Lib.hid (HF0.out.trans0 hf9)
    clear hf9
    go_wp2_with fail
    go_ret
    exact ⟨rfl, HF9.out⟩
end
end Go.Proofs.YtokeciekncincabGreat
