/-
  Walks of New, Room, Of.
  No condition but sizes.
-/
import Derived.Test.YtplebgcgoigigaaAdLeft
import Derived.Test.YtplebgcgoigigaaQTail
import Derived.Test.YtplebgcgoigigaaSetW
import Derived.Shelf.Abstract
namespace Go.Proofs.Ytplebgcgoigigaa
open Go Go.RowKit Go.Maps Go.Shelf

/-- A gate: its block, its map's block, its caps, who is in. -/
def GateAt (w : World) (gb bm : Nat) (c : CapD) (M : List (Int × Nd)) : Prop :=
  Bk w gb 56 [.int .i64 c.n, .int .i64 c.l, .int .i64 c.u, .map (some bm)] ∧ GMap w bm M
theorem GateAt.fr {w w' : World} {gb bm : Nat} {c : CapD} {M : List (Int × Nd)} {S : Nat → Prop} (h : GateAt w gb bm c M) (hf : Fr w w' S) (h1 : ¬ S gb) (h2 : ¬ S bm) : GateAt w' gb bm c M := ⟨h.1.fr hf h1, h.2.fr hf h2⟩
theorem GateAt.fr0 {w w' : World} {gb bm : Nat} {c : CapD} {M : List (Int × Nd)} (h : GateAt w gb bm c M) (hf : Fr w w' Nil) : GateAt w' gb bm c M := h.fr hf (fun h => h) fun h => h
theorem GateAt.ne {w : World} {gb bm : Nat} {c : CapD} {M : List (Int × Nd)} (h : GateAt w gb bm c M) : gb ≠ bm := by
  intro e
  obtain ⟨h1, D, ⟨es, clock, h2, _⟩, _⟩ := h
  unfold Bk at h1
  rw [e, h2] at h1
  cases h1
def CapD.wf (c : CapD) : Prop := wrap64 c.n = c.n ∧ wrap64 c.l = c.l ∧ wrap64 c.u = c.u
def roomOf (c : CapD) (M : List (Int × Nd)) : CapD := ⟨wrap64 (c.n - sumP (fun _ => 1) M), wrap64 (c.l - sumP Nd.l M), wrap64 (c.u - sumP Nd.u M)⟩

set_option maxRecDepth 100000 in
set_option maxHeartbeats 1000000 in
theorem room_any (gb bm : Nat) (c : CapD) (M : List (Int × Nd)) (w : World) (h : GateAt w gb bm c M) (hc : c.wf) :
    Calls Try.prog 17 #[.pointer (some ⟨gb, 0, none⟩)] w fun e w' => e = .returned (roomOf c M).val ∧ Fr w w' Nil := by
  obtain ⟨c1, c2, c3⟩ := hc
  have HM := Lib.hid h.2
  have HB := Lib.hid h.1
  have C1 := Lib.hid c1
  have C2 := Lib.hid c2
  have C3 := Lib.hid c3
  have E1 := enters_of Try.func30 (by kernel_rfl) rfl
  have E2 := enters_of Try.func31 (by kernel_rfl) rfl
  have E3 := enters_of Try.func32 (by kernel_rfl) rfl
  have HE1 := Lib.hid E1
  have HE2 := Lib.hid E2
  have HE3 := Lib.hid E3
  clear h c1 c2 c3 E1 E2 E3
  have hb0 := bk_at w 23 #[.int .i64 0, .int .i64 0, .int .i64 0] _ rfl
  have hf0 : Fr w (w.alloc (.cells #[.int .i64 0, .int .i64 0, .int .i64 0] 23)) Nil := (Fr.refl w Nil).alloc _
  have HB0 := Lib.hid hb0
  have HF0 := Lib.hid hf0
  have HM0 := Lib.hid (HM.out.fr0 hf0)
  have HB1 := Lib.hid (HB.out.fr hf0 fun h => h)
  clear hb0 hf0 HM HB
  go_enter Try.func17, Try.ntmps17
  go_wp2_with fail
  generalize w.alloc (.cells #[.int .i64 0, .int .i64 0, .int .i64 0] 23) = w1 at *
  generalize hs : w.heap.size = sz at *
  have HS := Lib.hid hs
  clear hs
  have q0 := fun p : FrW w1 => p.cell (HB1.out.cell 0)
  have q1 := fun p : FrW w1 => p.cell (HB1.out.cell 1)
  have q2 := fun p : FrW w1 => p.cell (HB1.out.cell 2)
  have q3 := fun p : FrW w1 => p.cell (HB1.out.cell 3)
  have hcl : ∀ p : FrW w1, ∃ q : FrW w1, p.to = q.to := fun p => ⟨p, rfl⟩
  refine wp_region_tail 31 (by kernel_rfl) (by kernel_rfl) ?_
  simp only [List.take_succ_cons, List.take_zero, List.drop_succ_cons, List.drop_zero]
  iterate 9 go_big_quiet_step (fail)
  go_big_quiet_step (refine Calls.fr_of (left_any (fun _ => 1) 30 HE1.out one_any _ _ M _ (HM0.out.fr0 (FrW.fr _)) C1.out))
  iterate 9 go_big_quiet_step (fail)
  go_big_quiet_step (refine Calls.fr_of (left_any Nd.l 31 HE2.out partL_any _ _ M _ (HM0.out.fr0 (FrW.fr _)) C2.out))
  iterate 9 go_big_quiet_step (fail)
  go_big_quiet_step (refine Calls.fr_of (left_any Nd.u 32 HE3.out partU_any _ _ M _ (HM0.out.fr0 (FrW.fr _)) C3.out))
  go_big_quiet_step (fail)
  refine wpQuiet_nil ?_
  intro _ hw'
  obtain ⟨p, hw''⟩ := hw'
  subst hw''
  clear q0 q1 q2 q3 hcl
  have hb2 := HB0.out.fr p.fr fun h => h
  have HF2 := Lib.hid (HF0.out.trans0 p.fr)
  generalize p.to = w2 at *
  have s0 := hb2.cell 0
  have s1 := hb2.cell 1
  have s2 := hb2.cell 2
  have sf := hb2.free
  have HB2 := Lib.hid hb2
  clear HB0 HF0 HM0 HB1 HE1 HE2 HE3 hb2
  go_wp2_with fail
  refine set3_world HB2.out ?_
  intro w3 hb3 hf3
  have t0 := hb3.cell 0
  have t1 := hb3.cell 1
  have t2 := hb3.cell 2
  have HF3 : Hid (Fr w w3 Nil) := (Fr.trans (S := fun k => k = sz) HF2.out.of_nil hf3 fun j hj h => h).mono fun k hk h => absurd hk (by have := HS.out; omega)
  simp only [List.getElem?_cons_zero, List.getElem?_cons_succ] at t0 t1 t2
  clear hb3 hf3 s0 s1 s2 sf HB2 HF2
  refine bodyPost_ret (by simp [results, Try.results17, go_sem, t0, t1, t2]; try rfl) rfl ?_
  exact ⟨rfl, HF3.out⟩

set_option maxRecDepth 100000 in
set_option maxHeartbeats 1000000 in
theorem of_any (gb bm : Nat) (c : CapD) (M : List (Int × Nd)) (x : Int) (w : World) (h : GateAt w gb bm c M) (hx : (Lit.int .i64 x).wf = true) :
    Calls Try.prog 18 #[.pointer (some ⟨gb, 0, none⟩), .int .i64 x] w fun e w' => e = .returned (.tuple #[encN (getV M x zeroN), .bool ((M.map Prod.fst).contains x)]) ∧ Fr w w' Nil := by
  have hf0 : Fr w (w.alloc (.cells #[.int .i64 0, .bool false, .int .i64 0, .int .i64 0] 27)) Nil := (Fr.refl w Nil).alloc _
  have HM0 := Lib.hid (h.2.fr0 hf0)
  have q3 := hf0.cell (h.1.cell 3) fun h => h
  have HF0 := Lib.hid hf0
  have hb0 := bk_at w 27 #[.int .i64 0, .bool false, .int .i64 0, .int .i64 0] _ rfl
  have HX := Lib.hid hx
  have HB0 := Lib.hid hb0
  clear h hf0 hx hb0
  go_enter Try.func18, Try.ntmps18
  go_wp2_with (at_lookup; refine wpList_map_look _ rfl _ _ 54 rfl 2 27 Try.keyI64 Try.underlying54 (z := zeroN) (zeroNeed _) intKey bm M rfl HM0.out _ x rfl (keyOf_int_mk Try.underlying2 HX.out) ?_)
  generalize getV M x zeroN = g
  obtain ⟨g1, g2, g3, g4⟩ := g
  generalize (M.map Prod.fst).contains x = bo
  have hb1 := (bk_at w 27 #[.int .i64 g1, .bool g2, .int .i64 g3, .int .i64 g4] _ rfl).alloc (.cells #[.int .i64 g1, .bool g2, .int .i64 g3, .int .i64 g4] 27)
  have t0 := hb1.cell 0
  have t1 := hb1.cell 1
  have t2 := hb1.cell 2
  have t3 := hb1.cell 3
  simp only [List.getElem?_cons_zero, List.getElem?_cons_succ] at t0 t1 t2 t3
  clear HB0 HM0 hb1 HF0
  go_wp2_with fail
  refine bodyPost_ret (by simp [results, Try.results18, go_sem, t0, t1, t2, t3]; try rfl) rfl ?_
  exact ⟨rfl, ((Fr.refl w Nil).alloc _).alloc _⟩
end Go.Proofs.Ytplebgcgoigigaa
