/-
  Walks of the document's Held and wish.
  No condition but sizes.
  Walk of the document's drop; a row of entries that grows.
  No condition but sizes.
  Walk of the document's Queue.
  No condition but sizes.
  Walk of the document's Waits.
  No condition but sizes.
-/
import Derived.Test.YtokeciekncincabGreatPkC32
import Derived.BigQuiet
import Derived.Deep.QuietTactic
import Derived.Test.YtokeciekncincabGreatPkC20
namespace Go.Proofs.YtokeciekncincabGreat
open Go Go.RowKit Go.Maps

theorem eq_three (a b : Spot) : (decide (a.1 = b.1) && (decide (a.2.1 = b.2.1) && decide (a.2.2 = b.2.2))) = decide (a = b) := by
  obtain ⟨a1, a2, a3⟩ := a
  obtain ⟨b1, b2, b3⟩ := b
  by_cases h1 : a1 = b1 <;> by_cases h2 : a2 = b2 <;> by_cases h3 : a3 = b3 <;> simp [h1, h2, h3]
theorem held_stop {H : List LkE} {who : Int} {s : Spot} {i : Nat} {e : LkE} (hn : ∀ x ∈ H.take i, (x.who == who && x.s == s) = false) (he : H[i]? = some e) (hp : (e.who == who && e.s == s) = true) : heldL H who s = e.m := by
  unfold heldL
  rw [find_at hn he hp]
theorem held_none {H : List LkE} {who : Int} {s : Spot} (hn : ∀ x ∈ H, (x.who == who && x.s == s) = false) : heldL H who s = 0 := by
  unfold heldL
  rw [find_no hn]
set_option maxRecDepth 100000 in
set_option maxHeartbeats 2000000 in
theorem rheld_any {mb : Nat} {D : LkS} {S : Nat → Prop} (who : Int) (s : Spot) (w : World) (h : DkA w mb D S) (hl : D.H.length ≤ 1000000) :
    Calls Tryz.prog 40 #[mkp mb, .int .i64 who, spV s] w fun e w' => e = .returned (.int .u8 (heldL D.H who s)) ∧ Fr w w' Nil := by
  obtain ⟨hv, wv, hg⟩ := h
  obtain ⟨R, hR⟩ : ∃ R, heldL D.H who s = R := ⟨_, rfl⟩
  rw [hR]
  have HR := Lib.hid hR
  obtain ⟨w0, hw0⟩ : ∃ w0, w.alloc (.cells #[.int .i64 s.1, .bool s.2.1, .int .i64 s.2.2] 30) = w0 := ⟨_, rfl⟩
  have hf0 : Fr w w0 Nil := by rw [← hw0]; exact (Fr.refl w Nil).alloc _
  have hb0 : Bk w0 w.heap.size 30 [.int .i64 s.1, .bool s.2.1, .int .i64 s.2.2] := by rw [← hw0]; exact Bk.new w _ _
  have hg0 := hg.fr0 hf0
  obtain ⟨ha, hc, rfl⟩ := hg0.holds.shape
  have HF0 := Lib.hid hf0
  have HB0 := Lib.hid hb0
  have HO := Lib.hid hg0.holds
  have HRT := Lib.hid hg0.root
  generalize D.H = H at *
  clear hg hg0 hf0 hb0 hR
  go_enter Tryz.func40, Tryz.ntmps40
  go_wp2_with fail
  go_loopw [7] (fun vi wr => ∃ i : Nat, vi = .int .i64 (i : Int) ∧ i ≤ H.length ∧ Hid (∀ x ∈ H.take i, (x.who == who && x.s == s) = false) ∧ Hid (Fr w0 wr Nil)) (fun vi _ => H.length - (intOf vi).toNat)
  case atStart => exact ⟨0, by go_num, by omega, (fun x hx => by simp at hx), Fr.refl _ _⟩
  case round =>
    obtain ⟨i, rfl, hi, HN, HF⟩ := hrel
    obtain ⟨wo, rfl⟩ : ∃ wo : World, wo = wr := ⟨_, rfl⟩
    have m1 : wo.cell? ⟨mb, 1, none⟩ = some (.slice ha H.length hc) := (HRT.out.fr HF.out fun h => h).cell 1
    by_cases hlt : i < H.length
    · have hil : (i : Int) < (H.length : Int) := by omega
      obtain ⟨b, cap', hvv, _, hcl⟩ := HO.out.form (by omega)
      simp only [Value.slice.injEq, true_and] at hvv
      obtain ⟨rfl, rfl⟩ := hvv
      obtain ⟨e, he⟩ : ∃ e, H[i]? = some e := ⟨_, List.getElem?_eq_getElem hlt⟩
      obtain ⟨p0, p1, p2, p3, p4⟩ := hcl i e he
      replace p0 := HF.out.cell p0 (fun h => h)
      replace p1 := HF.out.cell p1 (fun h => h)
      replace p2 := HF.out.cell p2 (fun h => h)
      replace p3 := HF.out.cell p3 (fun h => h)
      replace p4 := HF.out.cell p4 (fun h => h)
      have hbo := HB0.out.fr HF.out (fun h => h)
      have r0 : wo.cell? ⟨w.heap.size, 0, none⟩ = some (.int .i64 s.1) := hbo.cell 0
      have r1 : wo.cell? ⟨w.heap.size, 1, none⟩ = some (.bool s.2.1) := hbo.cell 1
      have r2 : wo.cell? ⟨w.heap.size, 2, none⟩ = some (.int .i64 s.2.2) := hbo.cell 2
      have HTK : Hid (H.take (i + 1) = H.take i ++ [e]) := by
        show _ = _
        rw [List.take_add_one, he]; rfl
      have HE := Lib.hid he
      have heq := Tryz.eqSp e.s s
      have h3 := Lib.hid (eq_three e.s s)
      obtain ⟨es, ew, em⟩ := e
      obtain ⟨e1, e2, e3⟩ := es
      obtain ⟨s1, s2, s3⟩ := s
      dsimp only at p0 p1 p2 p3 p4 r0 r1 r2
      clear hcl he hbo
      cases hw : (ew == who) with
      | false =>
        go_wp2_with fail
        go_quiet (fail)
        rename_i nq
        have HFq := Lib.hid (HF.out.drewN nq)
        go_wp2_with fail
        go_roundw
        case rel =>
          refine ⟨i + 1, by go_num, by omega, ?_, HFq⟩
          show ∀ x ∈ H.take (i + 1), _
          rw [HTK.out]
          intro x hx
          rcases List.mem_append.1 hx with hx | hx
          · exact HN.out x hx
          · rw [List.mem_singleton] at hx; subst hx; rw [hw]; rfl
        case measure => simp [intOf]; omega
      | true =>
        go_wp2_with fail
        go_quiet (fail)
        rename_i nq
        have HFq := Lib.hid (HF.out.drewN nq)
        have hfq : Fr wo (wo.drewN nq) Nil := (Fr.refl wo Nil).drewN nq
        replace m1 := hfq.cell m1 (fun h => h)
        replace p4 := hfq.cell p4 (fun h => h)
        clear hfq p0 p1 p2 p3 r0 r1 r2
        generalize hb : (decide (e1 = s1) && (decide (e2 = s2) && decide (e3 = s3))) = bb at *
        cases bb with
        | false =>
          go_wp2_with fail
          go_roundw
          case rel =>
            refine ⟨i + 1, by go_num, by omega, ?_, HFq⟩
            show ∀ x ∈ H.take (i + 1), _
            rw [HTK.out]
            intro x hx
            rcases List.mem_append.1 hx with hx | hx
            · exact HN.out x hx
            · rw [List.mem_singleton] at hx
              subst hx
              rw [Bool.and_eq_false_iff]
              right
              rw [beq_eq_false_iff_ne]
              exact of_decide_eq_false h3.out.symm
          case measure => simp [intOf]; omega
        | true =>
          go_wp2_with fail
          go_ret
          refine ⟨?_, HF0.out.trans0 HFq.out⟩
          rw [← HR.out, held_stop HN.out HE.out (by
            show (ew == who && (e1, e2, e3) == (s1, s2, s3)) = true
            rw [hw, Bool.true_and, beq_iff_eq]
            exact of_decide_eq_true h3.out.symm)]
          rfl
    · obtain rfl : i = H.length := by omega
      have HN2 := HN.out
      rw [List.take_length] at HN2
      go_wp2_with fail
      go_ret
      refine ⟨?_, HF0.out.trans0 HF.out⟩
      rw [← HR.out, held_none HN2]
      rfl
/-- Where one's wish stands; -1: nowhere. -/
def WishIs (W : List LkE) (who r : Int) : Prop := (r = -1 ∧ wishL W who = none) ∨ ∃ (i : Nat) (e : LkE), r = (i : Int) ∧ W[i]? = some e ∧ wishL W who = some e
set_option maxRecDepth 100000 in
set_option maxHeartbeats 2000000 in
theorem rwish_any {mb : Nat} {D : LkS} {S : Nat → Prop} (who : Int) (w : World) (h : DkA w mb D S) (hl : D.W.length ≤ 1000000) :
    Calls Tryz.prog 63 #[mkp mb, .int .i64 who] w fun e w' => ∃ r, e = .returned (.int .i64 r) ∧ WishIs D.W who r ∧ w' = w := by
  obtain ⟨hv, wv, hg⟩ := h
  obtain ⟨ha, hc, rfl⟩ := hg.wishes.shape
  have HO := Lib.hid hg.wishes
  have m2 : w.cell? ⟨mb, 2, none⟩ = some (.slice ha D.W.length hc) := hg.root.cell 2
  generalize D.W = W at *
  clear hg
  go_enter Tryz.func63, Tryz.ntmps63
  go_wp2_with fail
  go_loopw [5] (fun vi wr => wr = w ∧ ∃ i : Nat, vi = .int .i64 (i : Int) ∧ i ≤ W.length ∧ Hid (∀ x ∈ W.take i, (x.who == who) = false)) (fun vi _ => W.length - (intOf vi).toNat)
  case atStart => exact ⟨by first | rfl | trivial, 0, by go_num, by omega, (fun x hx => by simp at hx)⟩
  case round =>
    obtain ⟨rfl, i, rfl, hi, HN⟩ := hrel
    by_cases hlt : i < W.length
    · have hil : (i : Int) < (W.length : Int) := by omega
      obtain ⟨b, cap', hvv, _, hcl⟩ := HO.out.form (by omega)
      simp only [Value.slice.injEq, true_and] at hvv
      obtain ⟨rfl, rfl⟩ := hvv
      obtain ⟨e, he⟩ : ∃ e, W[i]? = some e := ⟨_, List.getElem?_eq_getElem hlt⟩
      obtain ⟨_, _, _, p3, _⟩ := hcl i e he
      have HTK : Hid (W.take (i + 1) = W.take i ++ [e]) := by
        show _ = _
        rw [List.take_add_one, he]; rfl
      have HE := Lib.hid he
      clear hcl he
      obtain ⟨ew, hew⟩ : ∃ x, e.who = x := ⟨_, rfl⟩
      rw [hew] at p3
      have HEW := Lib.hid hew
      clear hew
      cases hw : (ew == who) with
      | false =>
        go_wp2_with fail
        go_roundw
        case rel =>
          refine ⟨by first | rfl | trivial, i + 1, by go_num, by omega, ?_⟩
          show ∀ x ∈ W.take (i + 1), _
          rw [HTK.out]
          intro x hx
          rcases List.mem_append.1 hx with hx | hx
          · exact HN.out x hx
          · rw [List.mem_singleton] at hx; subst hx; rw [HEW.out]; exact hw
        case measure => simp [intOf]; omega
      | true =>
        go_wp2_with fail
        go_ret
        refine ⟨_, rfl, .inr ⟨i, e, rfl, HE.out, ?_⟩, by first | rfl | trivial⟩
        unfold wishL
        exact find_at HN.out HE.out (by rw [HEW.out]; exact hw)
    · obtain rfl : i = W.length := by omega
      have HN2 := HN.out
      rw [List.take_length] at HN2
      go_wp2_with fail
      go_ret
      refine ⟨_, rfl, .inl ⟨rfl, ?_⟩, by first | rfl | trivial⟩
      unfold wishL
      exact find_no HN2
end Go.Proofs.YtokeciekncincabGreat
namespace Go.Proofs.YtokeciekncincabGreat
open Go Go.RowKit Go.Maps

/-- A row of entries made since the heap was B long. -/
def NewE (B : Nat) (w : World) (v : Value) (l : List LkE) : Prop := OwnE w v l ∧ ∀ k, v.ownBlock = some k → B ≤ k
theorem NewE.nil (B : Nat) (w : World) : NewE B w (.slice none 0 0) [] := ⟨OwnE.nil w, fun k hk => by cases hk⟩
theorem NewE.fr0 {B : Nat} {w w' : World} {v : Value} {l : List LkE} (h : NewE B w v l) (hf : Fr w w' Nil) : NewE B w' v l := ⟨h.1.fr hf fun _ _ h => h, h.2⟩
theorem NewE.row {B : Nat} {w W : World} {a : Option Addr} {n c : Nat} {L : List LkE} (h : NewE B w (.slice a n c) L) (hn : L.length = n) (hf : Fr w W Nil) : W.ownsRow 0 96 5 (.slice a n c) n (L.flatMap ent5) := by
  have h1 := h.1.fr hf fun _ _ h => h
  unfold OwnE at h1
  rw [hn] at h1
  exact h1
theorem NewE.push {B z : Nat} {wr W W3 : World} {a ga : Option Addr} {n c gc : Nat} {L : List LkE} {e : LkE} (h : NewE B wr (.slice a n c) L) (hn : L.length = n) (hB : B ≤ wr.heap.size) (hf : Fr wr W Nil)
    (ho3 : W3.ownsRow 0 96 5 (.slice ga (n + 1) gc) (n + 1) (L.flatMap ent5 ++ ent5 e)) (hg3 : W.grownBy W3 (Value.slice a n c).ownBlock)
    (hb3 : (Value.slice ga (n + 1) gc).ownBlock = (Value.slice a n c).ownBlock ∨ (Value.slice ga (n + 1) gc).ownBlock = some z) (hz : wr.heap.size ≤ z) :
    NewE B W3 (.slice ga (n + 1) gc) (L ++ [e]) ∧ (L ++ [e]).length = n + 1 ∧ Fr wr W3 (fun k => (Value.slice a n c).ownBlock = some k) := by
  refine ⟨⟨OwnE.snoc hn ho3, fun k hk => ?_⟩, by rw [List.length_append, hn]; rfl, hf.of_nil.grown hg3 fun k hk _ => hk⟩
  rcases hb3 with h1 | h1
  · exact h.2 k (h1.symm.trans hk)
  · rw [h1] at hk
    cases hk
    omega
theorem NewE.nfr {B : Nat} {wr W3 w0 : World} {v : Value} {L : List LkE} (h : NewE B wr v L) (hB : w0.heap.size ≤ B) (h0 : Fr w0 wr Nil) (hf : Fr wr W3 (fun k => v.ownBlock = some k)) : Fr w0 W3 Nil :=
  h0.trans hf fun k hk e => by have := h.2 k e; omega
def keepE (who : Int) (s : Spot) (all : Bool) (e : LkE) : Bool := e.who != who || (!all && e.s != s)
def dropB (l : List LkE) (who : Int) (s : Spot) (all : Bool) : List LkE := l.filter (keepE who s all)
theorem dropB_one (l : List LkE) (who : Int) (s : Spot) : dropB l who s false = dropS l who s := by
  unfold dropB dropS
  congr 1
theorem dropB_all (l : List LkE) (who : Int) (s : Spot) : dropB l who s true = dropA l who := by
  unfold dropB dropA
  congr 1
  funext e
  unfold keepE
  simp
theorem take_filter {α : Type} {p : α → Bool} {l : List α} {i : Nat} {e : α} (h : l[i]? = some e) : (l.take (i + 1)).filter p = (l.take i).filter p ++ if p e then [e] else [] := by
  rw [List.take_add_one, h, List.filter_append]
  congr 1
  cases hp : p e <;> simp [hp]
theorem filter_len {α : Type} {p : α → Bool} {l : List α} {i n : Nat} (hl : l.length ≤ n) (hi : i < l.length) : ((l.take i).filter p).length + 1 ≤ n := by
  have h1 := List.length_filter_le p (l.take i)
  rw [List.length_take] at h1
  omega
theorem beq_spot (a b : Spot) : (a == b) = decide (a = b) := by
  by_cases h : a = b
  · subst h; simp
  · simp [h]
theorem bne_spot (a b : Spot) : (a != b) = !decide (a = b) := by
  by_cases h : a = b
  · subst h; simp
  · simp [h]
set_option maxRecDepth 100000 in
set_option maxHeartbeats 4000000 in
theorem rdrop_any {l : List LkE} {v : Value} (who : Int) (s : Spot) (all : Bool) (w : World) (h : OwnE w v l) (hl : l.length ≤ 1000000) :
    Calls Tryz.prog 64 #[v, .int .i64 who, spV s, .bool all] w fun e w' => ∃ v', e = .returned v' ∧ NewE w.heap.size w' v' (dropB l who s all) ∧ Fr w w' Nil := by
  obtain ⟨ha, hc, rfl⟩ := h.shape
  obtain ⟨w0, hw0⟩ : ∃ w0, w.alloc (.cells #[.int .i64 s.1, .bool s.2.1, .int .i64 s.2.2] 30) = w0 := ⟨_, rfl⟩
  have hf0 : Fr w w0 Nil := by rw [← hw0]; exact (Fr.refl w Nil).alloc _
  have hb0 : Bk w0 w.heap.size 30 [.int .i64 s.1, .bool s.2.1, .int .i64 s.2.2] := by rw [← hw0]; exact Bk.new w _ _
  have hz0 : w0.heap.size = w.heap.size + 1 := by rw [← hw0]; simp
  have HF0 := Lib.hid hf0
  have HB0 := Lib.hid hb0
  have HZ := Lib.hid hz0
  have HO := Lib.hid (h.fr hf0 fun _ _ h => h)
  have HL := Lib.hid hl
  clear hf0 hb0 h hl hz0
  go_enter Tryz.func64, Tryz.ntmps64
  go_wp2_with fail
  go_loopw [9, 10] (fun vo vi wr => ∃ (i n : Nat) (a : Option Addr) (c : Nat), vo = .slice a n c ∧ vi = .int .i64 (i : Int) ∧ i ≤ l.length ∧ Hid (((l.take i).filter (keepE who s all)).length = n) ∧ Hid (NewE w0.heap.size wr (.slice a n c) ((l.take i).filter (keepE who s all))) ∧ Hid (Fr w0 wr Nil)) (fun _ vi _ => l.length - (intOf vi).toNat)
  case atStart => exact ⟨0, 0, none, 0, rfl, by go_num, by omega, rfl, NewE.nil _ _, Fr.refl _ _⟩
  case round =>
    obtain ⟨i, n, a, c, rfl, rfl, hi, HLN, HN, HF⟩ := hrel
    obtain ⟨wo, rfl⟩ : ∃ wo : World, wo = wr := ⟨_, rfl⟩
    by_cases hlt : i < l.length
    · have hil : (i : Int) < (l.length : Int) := by omega
      have hl9 : l.length ≤ 1000000 := HL.out
      have HLB : Hid (n + 1 ≤ 1000000) := by
        show _ ≤ _
        rw [← HLN.out]; exact filter_len HL.out hlt
      obtain ⟨b, cap', hvv, _, hcl⟩ := HO.out.form (by omega)
      simp only [Value.slice.injEq, true_and] at hvv
      obtain ⟨rfl, rfl⟩ := hvv
      obtain ⟨e, he⟩ : ∃ e, l[i]? = some e := ⟨_, List.getElem?_eq_getElem hlt⟩
      obtain ⟨p0, p1, p2, p3, p4⟩ := hcl i e he
      replace p0 := HF.out.cell p0 (fun h => h)
      replace p1 := HF.out.cell p1 (fun h => h)
      replace p2 := HF.out.cell p2 (fun h => h)
      replace p3 := HF.out.cell p3 (fun h => h)
      replace p4 := HF.out.cell p4 (fun h => h)
      have hbo := HB0.out.fr HF.out (fun h => h)
      have r0 : wo.cell? ⟨w.heap.size, 0, none⟩ = some (.int .i64 s.1) := hbo.cell 0
      have r1 : wo.cell? ⟨w.heap.size, 1, none⟩ = some (.bool s.2.1) := hbo.cell 1
      have r2 : wo.cell? ⟨w.heap.size, 2, none⟩ = some (.int .i64 s.2.2) := hbo.cell 2
      have HTK : Hid ((l.take (i + 1)).filter (keepE who s all) = (l.take i).filter (keepE who s all) ++ if keepE who s all e then [e] else []) := take_filter he
      have HKE : Hid (keepE who s all e = (!(e.who == who) || (!all && !decide (e.s = s)))) := by
        show _ = _
        unfold keepE
        rw [bne_spot]; rfl
      have heq := Tryz.eqSp e.s s
      have h3 := Lib.hid (eq_three e.s s)
      have HONE : Hid (∀ W : World, SlAt (W.alloc (.cells #[.int .i64 e.s.1, .bool e.s.2.1, .int .i64 e.s.2.2, .int .i64 e.who, .int .u8 e.m] 96)) 5 (.slice (some ⟨W.heap.size, 0, none⟩) 1 1) 1 (ent5 e)) := fun W => ent_new W e
      have HON1 := Lib.hid (ent_one e)
      clear hcl he hbo
      generalize (l.take i).filter (keepE who s all) = L at *
      generalize keepE who s all e = ke at *
      obtain ⟨⟨e1, e2, e3⟩, ew, em⟩ := e
      obtain ⟨s1, s2, s3⟩ := s
      dsimp only at p0 p1 p2 p3 p4 r0 r1 r2
      have hne : (ew != who) = !(ew == who) := rfl
      cases hw : (ew == who) with
      | false =>
        rw [hw] at hne
        have HK2 : Hid ((l.take (i + 1)).filter (keepE who (s1, s2, s3) all) = L ++ [⟨(e1, e2, e3), ew, em⟩]) := by
          have h1 := HTK.out
          have h2 := HKE.out
          dsimp only at h2
          rw [hw] at h2
          rw [h2] at h1
          exact h1
        go_wp2_with fail
        go_quiet (fail)
        rename_i nq
        have HFq := Lib.hid (HF.out.drewN nq)
        have hfq : Fr wo (wo.drewN nq) Nil := (Fr.refl wo Nil).drewN nq
        replace p0 := hfq.cell p0 (fun h => h)
        replace p1 := hfq.cell p1 (fun h => h)
        replace p2 := hfq.cell p2 (fun h => h)
        replace p3 := hfq.cell p3 (fun h => h)
        replace p4 := hfq.cell p4 (fun h => h)
        have HNQ := Lib.hid (HN.out.fr0 hfq)
        clear hfq r0 r1 r2
        generalize wo.drewN nq = wq at *
        have HOR := Lib.hid (HNQ.out.row HLN.out ((Fr.refl wq Nil).alloc (.cells #[.int .i64 e1, .bool e2, .int .i64 e3, .int .i64 ew, .int .u8 em] 96)))
        go_wp2_with (at_builtin; refine wpList_app _ rfl _ _ 60 rfl entT (.slice a n c) rfl HOR.out _ rfl (HONE.out _) HON1.out HLB.out ?_)
        intro ga gc W3 ho3 hg3 hb3
        have hp := HNQ.out.push HLN.out HFq.out.size ((Fr.refl wq Nil).alloc _) ho3 hg3 hb3 (Nat.le_succ _)
        have HP := Lib.hid hp
        clear ho3 hg3 hb3 hp
        go_wp2_with fail
        go_roundw
        case rel =>
          refine ⟨i + 1, n + 1, ga, gc, rfl, by go_num, by omega, ?_, ?_, HNQ.out.nfr (Nat.le_refl _) HFq.out HP.out.2.2⟩
          · show List.length _ = _
            rw [HK2.out]; exact HP.out.2.1
          · show NewE _ _ _ _
            rw [HK2.out]; exact HP.out.1
        case measure => simp [intOf]; omega
      | true =>
        rw [hw] at hne
        cases all with
        | true =>
          have HK2 : Hid ((l.take (i + 1)).filter (keepE who (s1, s2, s3) true) = L) := by
            have h1 := HTK.out
            have h2 := HKE.out
            dsimp only at h2
            rw [hw] at h2
            rw [h2] at h1
            exact h1.trans (List.append_nil _)
          go_wp2_with fail
          go_quiet (fail)
          rename_i nq
          have HFq := Lib.hid (HF.out.drewN nq)
          have HNQ := Lib.hid (HN.out.fr0 ((Fr.refl wo Nil).drewN nq))
          go_wp2_with fail
          go_roundw
          case rel =>
            refine ⟨i + 1, n, a, c, rfl, by go_num, by omega, ?_, ?_, HFq.out⟩
            · show List.length _ = _
              rw [HK2.out]; exact HLN.out
            · show NewE _ _ _ _
              rw [HK2.out]; exact HNQ.out
          case measure => simp [intOf]; omega
        | false =>
          have HK2 : Hid ((l.take (i + 1)).filter (keepE who (s1, s2, s3) false) = L ++ if (!decide ((e1, e2, e3) = (s1, s2, s3))) then [⟨(e1, e2, e3), ew, em⟩] else []) := by
            have h1 := HTK.out
            have h2 := HKE.out
            dsimp only at h2
            rw [hw] at h2
            rw [h2] at h1
            exact h1
          rw [← h3.out, Bool.not_and, Bool.not_and] at HK2
          go_wp2_with fail
          go_quiet (fail)
          rename_i nq
          have HFq := Lib.hid (HF.out.drewN nq)
          have hfq : Fr wo (wo.drewN nq) Nil := (Fr.refl wo Nil).drewN nq
          replace p0 := hfq.cell p0 (fun h => h)
          replace p1 := hfq.cell p1 (fun h => h)
          replace p2 := hfq.cell p2 (fun h => h)
          replace p3 := hfq.cell p3 (fun h => h)
          replace p4 := hfq.cell p4 (fun h => h)
          have HNQ := Lib.hid (HN.out.fr0 hfq)
          clear hfq r0 r1 r2 heq
          generalize wo.drewN nq = wq at *
          generalize hb : (!decide (e1 = s1) || (!decide (e2 = s2) || !decide (e3 = s3))) = bb at *
          cases bb with
          | false =>
            go_wp2_with fail
            go_roundw
            case rel =>
              refine ⟨i + 1, n, a, c, rfl, by go_num, by omega, ?_, ?_, HFq.out⟩
              · show List.length _ = _
                rw [HK2.out]
                exact (congrArg List.length (List.append_nil L)).trans HLN.out
              · show NewE _ _ _ _
                rw [HK2.out]
                exact (List.append_nil L).symm ▸ HNQ.out
            case measure => simp [intOf]; omega
          | true =>
            have HOR := Lib.hid (HNQ.out.row HLN.out ((Fr.refl wq Nil).alloc (.cells #[.int .i64 e1, .bool e2, .int .i64 e3, .int .i64 ew, .int .u8 em] 96)))
            go_wp2_with (at_builtin; refine wpList_app _ rfl _ _ 60 rfl entT (.slice a n c) rfl HOR.out _ rfl (HONE.out _) HON1.out HLB.out ?_)
            intro ga gc W3 ho3 hg3 hb3
            have hp := HNQ.out.push HLN.out HFq.out.size ((Fr.refl wq Nil).alloc _) ho3 hg3 hb3 (Nat.le_succ _)
            have HP := Lib.hid hp
            clear ho3 hg3 hb3 hp
            go_wp2_with fail
            go_roundw
            case rel =>
              refine ⟨i + 1, n + 1, ga, gc, rfl, by go_num, by omega, ?_, ?_, HNQ.out.nfr (Nat.le_refl _) HFq.out HP.out.2.2⟩
              · show List.length _ = _
                rw [HK2.out]; exact HP.out.2.1
              · show NewE _ _ _ _
                rw [HK2.out]; exact HP.out.1
            case measure => simp [intOf]; omega
    · obtain rfl : i = l.length := by omega
      have HN2 := HN.out
      rw [List.take_length] at HN2
      go_wp2_with fail
      go_ret
      exact ⟨_, rfl, ⟨HN2.1, fun k hk => by have := HN2.2 k hk; have := HZ.out; omega⟩, HF0.out.trans0 HF.out⟩
end Go.Proofs.YtokeciekncincabGreat
namespace Go.Proofs.YtokeciekncincabGreat
open Go Go.RowKit Go.Maps

def upP (H : List LkE) (s : Spot) (e : LkE) : Bool := e.s == s && heldL H e.who s != 0
def restP (H : List LkE) (s : Spot) (e : LkE) : Bool := e.s == s && heldL H e.who s == 0
theorem up_rest_len (H W : List LkE) (s : Spot) : (W.filter (upP H s)).length + (W.filter (restP H s)).length ≤ W.length := by
  induction W with
  | nil => simp
  | cons e W ih =>
    rw [List.filter_cons, List.filter_cons, List.length_cons]
    cases h1 : upP H s e with
    | true =>
      have h2 : restP H s e = false := by
        unfold upP at h1; unfold restP
        rw [Bool.and_eq_true, bne_iff_ne] at h1
        rw [Bool.and_eq_false_iff]; right
        rw [beq_eq_false_iff_ne]; exact h1.2
      rw [h2, if_pos rfl, if_neg (by decide), List.length_cons]; omega
    | false =>
      rw [if_neg (by decide)]
      split
      · rw [List.length_cons]; omega
      · omega
theorem up_rest_take {H W : List LkE} {s : Spot} {i n : Nat} (hl : W.length ≤ n) (hi : i < W.length) : ((W.take i).filter (upP H s)).length + ((W.take i).filter (restP H s)).length + 1 ≤ n := by
  have h1 := up_rest_len H (W.take i) s
  rw [List.length_take] at h1
  omega
theorem own_far {z : Nat} {v v' b : Value} {B : Nat} {w : World} {L : List LkE} (h : ∀ k, v.ownBlock = some k → b.ownBlock ≠ some k) (hn : NewE B w b L) (hb : v'.ownBlock = v.ownBlock ∨ v'.ownBlock = some z) (hz : w.heap.size ≤ z) : ∀ k, v'.ownBlock = some k → b.ownBlock ≠ some k := fun k hk h2 => by
  rcases hb with h1 | h1
  · exact h k (h1.symm.trans hk) h2
  · rw [h1] at hk
    cases hk
    have := hn.1.lt h2
    omega
theorem NewE.by {B : Nat} {w w' : World} {v u : Value} {l : List LkE} (h : NewE B w v l) (hf : Fr w w' (fun k => u.ownBlock = some k)) (hd : ∀ k, v.ownBlock = some k → u.ownBlock ≠ some k) : NewE B w' v l := ⟨h.1.fr hf hd, h.2⟩
theorem ents_one (l : List LkE) : ∀ u ∈ l.flatMap ent5, u.oneCell' = true := by
  intro u hu
  obtain ⟨e, _, h⟩ := List.mem_flatMap.1 hu
  exact ent_one e u h
theorem u8_ne (a : Int) : (a != 0) = !(a == 0) := rfl
set_option maxRecDepth 100000 in
set_option maxHeartbeats 4000000 in
theorem rqueue_any {mb : Nat} {D : LkS} {S : Nat → Prop} (s : Spot) (w : World) (h : DkA w mb D S) (hl : D.H.length ≤ 1000000) (hlw : D.W.length ≤ 1000000) :
    Calls Tryz.prog 36 #[mkp mb, spV s] w fun e w' => ∃ v', e = .returned v' ∧ NewE w.heap.size w' v' (queueL D.H D.W s) ∧ Fr w w' Nil := by
  have hR : queueL D.H D.W s = D.W.filter (upP D.H s) ++ D.W.filter (restP D.H s) := rfl
  rw [hR]
  obtain ⟨w0, hw0⟩ : ∃ w0, w.alloc (.cells #[.int .i64 s.1, .bool s.2.1, .int .i64 s.2.2] 30) = w0 := ⟨_, rfl⟩
  have hf0 : Fr w w0 Nil := by rw [← hw0]; exact (Fr.refl w Nil).alloc _
  have hb0 : Bk w0 w.heap.size 30 [.int .i64 s.1, .bool s.2.1, .int .i64 s.2.2] := by rw [← hw0]; exact Bk.new w _ _
  have hz0 : w0.heap.size = w.heap.size + 1 := by rw [← hw0]; simp
  have HA0 := Lib.hid (h.fr0 hf0)
  obtain ⟨hv, wv, hg⟩ := h.fr0 hf0
  obtain ⟨ha, hc, rfl⟩ := hg.wishes.shape
  have HF0 := Lib.hid hf0
  have HB0 := Lib.hid hb0
  have HZ := Lib.hid hz0
  have HO := Lib.hid hg.wishes
  have HRT := Lib.hid hg.root
  have cH := fun (who : Int) (w' : World) (hf : Fr w0 w' Nil) => rheld_any who s w' (HA0.out.fr0 hf) hl
  have HL := Lib.hid hlw
  generalize D.H = H at *
  generalize D.W = W at *
  clear hg hf0 hb0 hR hz0 h
  go_enter Tryz.func36, Tryz.ntmps36
  go_wp2_with fail
  go_loopw [5, 6, 7] (fun vu vr vi wr => ∃ (i n m : Nat) (a : Option Addr) (c : Nat) (a2 : Option Addr) (c2 : Nat), vu = .slice a n c ∧ vr = .slice a2 m c2 ∧ vi = .int .i64 (i : Int) ∧ i ≤ W.length ∧ Hid (((W.take i).filter (upP H s)).length = n) ∧ Hid (((W.take i).filter (restP H s)).length = m) ∧ Hid (NewE w0.heap.size wr (.slice a n c) ((W.take i).filter (upP H s))) ∧ Hid (NewE w0.heap.size wr (.slice a2 m c2) ((W.take i).filter (restP H s))) ∧ Hid (∀ k, (Value.slice a n c).ownBlock = some k → (Value.slice a2 m c2).ownBlock ≠ some k) ∧ Hid (Fr w0 wr Nil)) (fun _ _ vi _ => W.length - (intOf vi).toNat)
  case atStart => exact ⟨0, 0, 0, none, 0, none, 0, rfl, rfl, by go_num, by omega, rfl, rfl, NewE.nil _ _, NewE.nil _ _, (fun k hk => by cases hk), Fr.refl _ _⟩
  case round =>
    obtain ⟨i, n, m, a, c, a2, c2, rfl, rfl, rfl, hi, HLN, HLM, HN, HM, HFA, HF⟩ := hrel
    obtain ⟨wo, rfl⟩ : ∃ wo : World, wo = wr := ⟨_, rfl⟩
    have m1 : wo.cell? ⟨mb, 2, none⟩ = some (.slice ha W.length hc) := (HRT.out.fr HF.out fun h => h).cell 2
    have hl9 : W.length ≤ 1000000 := HL.out
    by_cases hlt : i < W.length
    · have hil : (i : Int) < (W.length : Int) := by omega
      have HLB : Hid (n + m + 1 ≤ 1000000) := by
        show _ ≤ _
        rw [← HLN.out, ← HLM.out]; exact up_rest_take HL.out hlt
      obtain ⟨b, cap', hvv, _, hcl⟩ := HO.out.form (by omega)
      simp only [Value.slice.injEq, true_and] at hvv
      obtain ⟨rfl, rfl⟩ := hvv
      obtain ⟨e, he⟩ : ∃ e, W[i]? = some e := ⟨_, List.getElem?_eq_getElem hlt⟩
      obtain ⟨p0, p1, p2, p3, p4⟩ := hcl i e he
      replace p0 := HF.out.cell p0 (fun h => h)
      replace p1 := HF.out.cell p1 (fun h => h)
      replace p2 := HF.out.cell p2 (fun h => h)
      replace p3 := HF.out.cell p3 (fun h => h)
      replace p4 := HF.out.cell p4 (fun h => h)
      have hbo := HB0.out.fr HF.out (fun h => h)
      have r0 : wo.cell? ⟨w.heap.size, 0, none⟩ = some (.int .i64 s.1) := hbo.cell 0
      have r1 : wo.cell? ⟨w.heap.size, 1, none⟩ = some (.bool s.2.1) := hbo.cell 1
      have r2 : wo.cell? ⟨w.heap.size, 2, none⟩ = some (.int .i64 s.2.2) := hbo.cell 2
      have HTU : Hid ((W.take (i + 1)).filter (upP H s) = (W.take i).filter (upP H s) ++ if upP H s e then [e] else []) := take_filter he
      have HTR : Hid ((W.take (i + 1)).filter (restP H s) = (W.take i).filter (restP H s) ++ if restP H s e then [e] else []) := take_filter he
      have HUP : Hid (upP H s e = (decide (e.s = s) && !(heldL H e.who s == 0))) := by
        show _ = _
        unfold upP
        rw [beq_spot]; rfl
      have HRP : Hid (restP H s e = (decide (e.s = s) && (heldL H e.who s == 0))) := by
        show _ = _
        unfold restP
        rw [beq_spot]
      have heq := Tryz.eqSp e.s s
      have HONE : Hid (∀ W : World, SlAt (W.alloc (.cells #[.int .i64 e.s.1, .bool e.s.2.1, .int .i64 e.s.2.2, .int .i64 e.who, .int .u8 e.m] 96)) 5 (.slice (some ⟨W.heap.size, 0, none⟩) 1 1) 1 (ent5 e)) := fun W => ent_new W e
      have HON1 := Lib.hid (ent_one e)
      obtain ⟨w1, hw1⟩ : ∃ w1, wo.alloc (.cells #[.int .i64 e.s.1, .bool e.s.2.1, .int .i64 e.s.2.2, .int .i64 e.who, .int .u8 e.m] 96) = w1 := ⟨_, rfl⟩
      have hf1 : Fr wo w1 Nil := by rw [← hw1]; exact (Fr.refl wo Nil).alloc _
      have hb1 : Bk w1 wo.heap.size 96 [.int .i64 e.s.1, .bool e.s.2.1, .int .i64 e.s.2.2, .int .i64 e.who, .int .u8 e.m] := by rw [← hw1]; exact Bk.new wo _ _
      have q0 := hb1.cell 0
      have q1 := hb1.cell 1
      have q2 := hb1.cell 2
      have q3 := hb1.cell 3
      have q4 := hb1.cell 4
      have t0 := hf1.cell r0 (fun h => h)
      have t1 := hf1.cell r1 (fun h => h)
      have t2 := hf1.cell r2 (fun h => h)
      have HF1 := Lib.hid (HF.out.trans0 hf1)
      have HN1 := Lib.hid (HN.out.fr0 hf1)
      have HM1 := Lib.hid (HM.out.fr0 hf1)
      have cH1 := cH e.who
      have HBK1 := Lib.hid hb1
      rw [← hw1] at q0 q1 q2 q3 q4 t0 t1 t2
      generalize hd : decide (e.s = s) = dd at *
      generalize heldL H e.who s = hm at *
      clear hcl he hbo hd hf1 hb1 cH HN HM
      obtain ⟨⟨e1, e2, e3⟩, ew, em⟩ := e
      obtain ⟨s1, s2, s3⟩ := s
      dsimp only at p0 p1 p2 p3 p4 r0 r1 r2 q0 q1 q2 q3 q4 t0 t1 t2 hw1 cH1
      have HW1 := Lib.hid hw1
      clear hw1
      cases dd with
      | false =>
        have HU2 : Hid ((W.take (i + 1)).filter (upP H (s1, s2, s3)) = (W.take i).filter (upP H (s1, s2, s3))) := by
          have h1 := HTU.out
          rw [HUP.out] at h1
          exact h1.trans (List.append_nil _)
        have HR2 : Hid ((W.take (i + 1)).filter (restP H (s1, s2, s3)) = (W.take i).filter (restP H (s1, s2, s3))) := by
          have h1 := HTR.out
          rw [HRP.out] at h1
          exact h1.trans (List.append_nil _)
        go_wp2_with fail
        try rw [HW1.out]
        go_roundw
        case rel =>
          refine ⟨i + 1, n, m, a, c, a2, c2, rfl, rfl, by go_num, by omega, ?_, ?_, ?_, ?_, HFA, HF1⟩
          · show List.length _ = _
            rw [HU2.out]; exact HLN.out
          · show List.length _ = _
            rw [HR2.out]; exact HLM.out
          · show NewE _ _ _ _
            rw [HU2.out]; exact HN1.out
          · show NewE _ _ _ _
            rw [HR2.out]; exact HM1.out
        case measure => simp [intOf]; omega
      | true =>
        go_wp2_with fail
        try rw [HW1.out]
        refine (cH1 _ HF1.out).mono ?_
        rintro e w2 ⟨rfl, hf2⟩
        have HF2 := Lib.hid (HF1.out.trans0 hf2)
        have HN2 := Lib.hid (HN1.out.fr0 hf2)
        have HM2 := Lib.hid (HM1.out.fr0 hf2)
        have hb2 := HBK1.out.fr hf2 (fun h => h)
        have v0 := hb2.cell 0
        have v1 := hb2.cell 1
        have v2 := hb2.cell 2
        have v3 := hb2.cell 3
        have v4 := hb2.cell 4
        clear hf2 hb2 cH1 p0 p1 p2 p3 p4 q0 q1 q2 q3 q4 r0 r1 r2 t0 t1 t2 m1 heq
        have hne := u8_ne hm
        generalize hz : (hm == 0) = z at *
        cases z with
        | true =>
          have HU2 : Hid ((W.take (i + 1)).filter (upP H (s1, s2, s3)) = (W.take i).filter (upP H (s1, s2, s3))) := by
            have h1 := HTU.out
            rw [HUP.out] at h1
            exact h1.trans (List.append_nil _)
          have HR2 : Hid ((W.take (i + 1)).filter (restP H (s1, s2, s3)) = (W.take i).filter (restP H (s1, s2, s3)) ++ [⟨(e1, e2, e3), ew, em⟩]) := by
            have h1 := HTR.out
            rw [HRP.out] at h1
            exact h1
          have HOR := Lib.hid (HM2.out.row HLM.out ((Fr.refl w2 Nil).alloc (.cells #[.int .i64 e1, .bool e2, .int .i64 e3, .int .i64 ew, .int .u8 em] 96)))
          have HLB2 : Hid (m + 1 ≤ 1000000) := Nat.le_trans (by omega) HLB.out
          go_wp2_with (at_builtin; refine wpList_app _ rfl _ _ 60 rfl entT (.slice a2 m c2) rfl HOR.out _ rfl (HONE.out _) HON1.out HLB2.out ?_)
          intro ga gc W3 ho3 hg3 hb3
          have hp := HM2.out.push HLM.out HF2.out.size ((Fr.refl w2 Nil).alloc _) ho3 hg3 hb3 (Nat.le_succ _)
          have HP := Lib.hid hp
          have HFA2 : Hid (∀ k, (Value.slice a n c).ownBlock = some k → (Value.slice ga (m + 1) gc).ownBlock ≠ some k) := fun k hk h2 => own_far (fun k h h2 => HFA.out k h2 h) HN2.out hb3 (Nat.le_succ _) k h2 hk
          have HN3 := Lib.hid (HN2.out.by hp.2.2 HFA.out)
          clear ho3 hg3 hb3 hp
          go_wp2_with fail
          go_roundw
          case rel =>
            refine ⟨i + 1, n, m + 1, a, c, ga, gc, rfl, rfl, by go_num, by omega, ?_, ?_, ?_, ?_, HFA2, HM2.out.nfr (Nat.le_refl _) HF2.out HP.out.2.2⟩
            · show List.length _ = _
              rw [HU2.out]; exact HLN.out
            · show List.length _ = _
              rw [HR2.out]; exact HP.out.2.1
            · show NewE _ _ _ _
              rw [HU2.out]; exact HN3.out
            · show NewE _ _ _ _
              rw [HR2.out]; exact HP.out.1
          case measure => simp [intOf]; omega
        | false =>
          have HU2 : Hid ((W.take (i + 1)).filter (upP H (s1, s2, s3)) = (W.take i).filter (upP H (s1, s2, s3)) ++ [⟨(e1, e2, e3), ew, em⟩]) := by
            have h1 := HTU.out
            rw [HUP.out] at h1
            exact h1
          have HR2 : Hid ((W.take (i + 1)).filter (restP H (s1, s2, s3)) = (W.take i).filter (restP H (s1, s2, s3))) := by
            have h1 := HTR.out
            rw [HRP.out] at h1
            exact h1.trans (List.append_nil _)
          have HOR := Lib.hid (HN2.out.row HLN.out ((Fr.refl w2 Nil).alloc (.cells #[.int .i64 e1, .bool e2, .int .i64 e3, .int .i64 ew, .int .u8 em] 96)))
          have HLB2 : Hid (n + 1 ≤ 1000000) := Nat.le_trans (by omega) HLB.out
          go_wp2_with (at_builtin; refine wpList_app _ rfl _ _ 60 rfl entT (.slice a n c) rfl HOR.out _ rfl (HONE.out _) HON1.out HLB2.out ?_)
          intro ga gc W3 ho3 hg3 hb3
          have hp := HN2.out.push HLN.out HF2.out.size ((Fr.refl w2 Nil).alloc _) ho3 hg3 hb3 (Nat.le_succ _)
          have HP := Lib.hid hp
          have HFA2 : Hid (∀ k, (Value.slice ga (n + 1) gc).ownBlock = some k → (Value.slice a2 m c2).ownBlock ≠ some k) := own_far HFA.out HM2.out hb3 (Nat.le_succ _)
          have HM3 := Lib.hid (HM2.out.by hp.2.2 fun k h h2 => HFA.out k h2 h)
          clear ho3 hg3 hb3 hp
          go_wp2_with fail
          go_roundw
          case rel =>
            refine ⟨i + 1, n + 1, m, ga, gc, a2, c2, rfl, rfl, by go_num, by omega, ?_, ?_, ?_, ?_, HFA2, HN2.out.nfr (Nat.le_refl _) HF2.out HP.out.2.2⟩
            · show List.length _ = _
              rw [HU2.out]; exact HP.out.2.1
            · show List.length _ = _
              rw [HR2.out]; exact HLM.out
            · show NewE _ _ _ _
              rw [HU2.out]; exact HP.out.1
            · show NewE _ _ _ _
              rw [HR2.out]; exact HM3.out
          case measure => simp [intOf]; omega
    · obtain rfl : i = W.length := by omega
      rw [List.take_length] at HLN HLM HN HM
      have HOR := Lib.hid (HN.out.row HLN.out (Fr.refl wo Nil))
      have HXR := Lib.hid (SlAt.of_own (HM.out.row HLM.out (Fr.refl wo Nil))).1
      have HLB : Hid (n + m ≤ 1000000) := by
        show _ ≤ _
        rw [← HLN.out, ← HLM.out]; exact Nat.le_trans (up_rest_len _ _ _) HL.out
      go_wp2_with (at_builtin; refine wpList_app _ rfl _ _ 60 rfl entT (.slice a n c) rfl HOR.out _ rfl HXR.out (ents_one _) HLB.out ?_)
      intro ga gc W3 ho3 hg3 hb3
      have HOE : Hid (OwnE W3 (.slice ga (n + m) gc) (W.filter (upP H s) ++ W.filter (restP H s))) := by
        show World.ownsRow _ _ _ _ _ _ _
        rw [List.length_append, List.flatMap_append, HLN.out, HLM.out]
        exact ho3
      have HNB : Hid (∀ k, (Value.slice ga (n + m) gc).ownBlock = some k → w.heap.size ≤ k) := fun k hk => by
        have h1 := HZ.out
        rcases hb3 with h | h
        · have := HN.out.2 k (h.symm.trans hk); omega
        · rw [h] at hk; cases hk
          have := HF.out.size
          omega
      have HF3 : Hid (Fr w W3 Nil) := HF0.out.trans0 (HN.out.nfr (Nat.le_refl _) HF.out ((Fr.refl wo _).grown hg3 fun k hk _ => hk))
      clear ho3 hg3 hb3
      go_wp2_with fail
      go_ret
      exact ⟨_, rfl, ⟨HOE.out, HNB.out⟩, HF3.out⟩
end Go.Proofs.YtokeciekncincabGreat
namespace Go.Proofs.YtokeciekncincabGreat
open Go Go.RowKit Go.Maps

set_option maxRecDepth 100000 in
set_option maxHeartbeats 4000000 in
theorem rwaits_any {mb : Nat} {D : LkS} {S : Nat → Prop} (who : Int) (w : World) (h : DkA w mb D S) (hl : D.W.length ≤ 1000000) :
    Calls Tryz.prog 39 #[mkp mb, .int .i64 who] w fun e w' => e = .returned (.tuple #[spV (waitsL D who).1, .int .u8 (waitsL D who).2.1, .bool (waitsL D who).2.2]) ∧ Fr w w' Nil := by
  obtain ⟨w0, hw0⟩ : ∃ w0, w.alloc (.cells #[.int .i64 0, .bool false, .int .i64 0] 30) = w0 := ⟨_, rfl⟩
  have hf0 : Fr w w0 Nil := by rw [← hw0]; exact (Fr.refl w Nil).alloc _
  have hb0 : Bk w0 w.heap.size 30 [.int .i64 0, .bool false, .int .i64 0] := by rw [← hw0]; exact Bk.new w _ _
  have hlt := h.lt
  have cW := rwish_any who w0 (h.fr0 hf0) hl
  obtain ⟨hv, wv, hg⟩ := h.fr0 hf0
  obtain ⟨ha, hc, rfl⟩ := hg.wishes.shape
  obtain ⟨R, hR⟩ : ∃ R, waitsL D who = R := ⟨_, rfl⟩
  rw [hR]
  unfold waitsL at hR
  have HRR := Lib.hid hR
  have HF0 := Lib.hid hf0
  have HB0 := Lib.hid hb0
  have HO := Lib.hid hg.wishes
  have HMB : Hid (mb < w.heap.size) := hlt _ hg.inB
  have m2 : w0.cell? ⟨mb, 2, none⟩ = some (.slice ha D.W.length hc) := hg.root.cell 2
  have HWB : Hid (∀ k, (Value.slice ha D.W.length hc).ownBlock = some k → k < w.heap.size) := fun k hk => hlt _ (hg.inW k hk)
  have e0 : w0.cell? ⟨w.heap.size, 0, none⟩ = some (.int .i64 0) := hb0.cell 0
  have e1 : w0.cell? ⟨w.heap.size, 1, none⟩ = some (.bool false) := hb0.cell 1
  have e2 : w0.cell? ⟨w.heap.size, 2, none⟩ = some (.int .i64 0) := hb0.cell 2
  have g0 := hb0.free 0
  have g1 := hb0.free 1
  have g2 := hb0.free 2
  generalize D.W = W at *
  clear hg hf0 hb0 hR h hlt
  go_enter Tryz.func39, Tryz.ntmps39
  go_wp2_with fail
  refine cW.mono ?_
  rintro e w1 ⟨r, rfl, hr, rfl⟩
  clear cW
  rcases hr with ⟨rfl, hn⟩ | ⟨i, e, rfl, he, hs⟩
  · have hw : R = ((0, false, 0), 0, false) := by rw [← HRR.out, hn]
    subst hw
    go_wp2_with fail
    have hbr := ((HB0.out.set 0 (.int .i64 0)).set 1 (.bool false)).set 2 (.int .i64 0)
    have hfr : Fr w1 (((w1.setCell ⟨w.heap.size, 0, none⟩ (.int .i64 0)).setCell ⟨w.heap.size, 1, none⟩ (.bool false)).setCell ⟨w.heap.size, 2, none⟩ (.int .i64 0)) (fun k => k = w.heap.size) := ((Fr.store _ _ _ _).trans (Fr.store _ _ _ _) fun _ _ h => h).trans (Fr.store _ _ _ _) fun _ _ h => h
    obtain ⟨wC, hwC⟩ : ∃ x, ((w1.setCell ⟨w.heap.size, 0, none⟩ (.int .i64 0)).setCell ⟨w.heap.size, 1, none⟩ (.bool false)).setCell ⟨w.heap.size, 2, none⟩ (.int .i64 0) = x := ⟨_, rfl⟩
    rw [hwC] at hbr hfr ⊢
    have t0 : wC.cell? ⟨w.heap.size, 0, none⟩ = some (.int .i64 0) := hbr.cell 0
    have t1 : wC.cell? ⟨w.heap.size, 1, none⟩ = some (.bool false) := hbr.cell 1
    have t2 : wC.cell? ⟨w.heap.size, 2, none⟩ = some (.int .i64 0) := hbr.cell 2
    refine bodyPost_ret (by simp [results, Tryz.results39, go_sem, t0, t1, t2]; try rfl) rfl ?_
    exact ⟨rfl, HF0.out.trans hfr fun k hk e => by omega⟩
  · have hw : R = (e.s, e.m, true) := by rw [← HRR.out, hs]
    subst hw
    have hilt : i < W.length := by
      rcases Nat.lt_or_ge i W.length with h | h
      · exact h
      · rw [List.getElem?_eq_none h] at he; cases he
    have hil : (i : Int) < (W.length : Int) := by omega
    obtain ⟨b, cap', hvv, _, hcl⟩ := HO.out.form (by omega)
    simp only [Value.slice.injEq, true_and] at hvv
    obtain ⟨rfl, rfl⟩ := hvv
    obtain ⟨p0, p1, p2, p3, p4⟩ := hcl i e he
    have hbn : b ≠ w.heap.size := fun h => by have := HWB.out b rfl; omega
    have hmn : mb ≠ w.heap.size := fun h => by have := HMB.out; omega
    have k1 : ∀ w', KeptR (fun k => k = w.heap.size) w1 w' → w'.cell? ⟨mb, 2, none⟩ = some (.slice (some ⟨b, 0, none⟩) W.length hc) := KeptR.cell m2 hmn
    have k2 : ∀ w', KeptR (fun k => k = w.heap.size) w1 w' → w'.cell? ⟨b, i * 5, none⟩ = some (.int .i64 e.s.1) := KeptR.cell p0 hbn
    have k3 : ∀ w', KeptR (fun k => k = w.heap.size) w1 w' → w'.cell? ⟨b, i * 5 + 1, none⟩ = some (.bool e.s.2.1) := KeptR.cell p1 hbn
    have k4 : ∀ w', KeptR (fun k => k = w.heap.size) w1 w' → w'.cell? ⟨b, i * 5 + 2, none⟩ = some (.int .i64 e.s.2.2) := KeptR.cell p2 hbn
    have k5 : ∀ w', KeptR (fun k => k = w.heap.size) w1 w' → w'.cell? ⟨b, i * 5 + 4, none⟩ = some (.int .u8 e.m) := KeptR.cell p4 hbn
    clear hcl he hs p0 p1 p2 p3 p4 m2 hbn hmn HRR
    obtain ⟨⟨s1, s2, s3⟩, ew, em⟩ := e
    dsimp only at k2 k3 k4 k5
    go_wp2_with fail
    refine wp_region_sink 18 (KeptR (fun k => k = w.heap.size) w1) (by kernel_rfl) ?_
    have hSa : KeptR (fun k => k = w.heap.size) w1 w1.drew := (KeptN.start w1).weak _
    refine tk 0 hSa ?_
    refine tk 1 hSa ?_
    refine tk 2 hSa ?_
    try simp only [Act.put, sA, sB, sC]
    refine tk 3 hSa ?_ (hy := by intro _ w; have ck1 := k1 _ w; go_simp <;> with_reducible rfl)
    try simp only [Act.put, sA, sB, sC]
    refine tk 4 hSa ?_
    refine tk 5 hSa ?_
    refine tk 6 hSa ?_
    try simp only [Act.put, sA, sB, sC]
    refine tk 7 hSa ?_ (hy := by intro _ w; have ck2 := k2 _ w; have ck3 := k3 _ w; have ck4 := k4 _ w; go_simp <;> with_reducible rfl)
    try simp only [Act.put, sA, sB, sC]
    refine tk 8 hSa ?_
    refine tk 9 hSa ?_
    refine tk 10 hSa ?_
    try simp only [Act.put, sA, sB, sC]
    refine tk 11 hSa ?_ (hy := by intro _ w; have ck1 := k1 _ w; go_simp <;> with_reducible rfl)
    try simp only [Act.put, sA, sB, sC]
    refine tk 12 hSa ?_
    refine tk 13 hSa ?_
    refine tk 14 hSa ?_
    try simp only [Act.put, sA, sB, sC]
    refine tk 15 hSa ?_ (hy := by intro _ w; have ck5 := k5 _ w; go_simp <;> with_reducible rfl)
    try simp only [Act.put, sA, sB, sC]
    have hb2D := HB0.out.fr (Fr.refl w1 Nil).drew (fun h => h)
    have c0 : w1.drew.cell? ⟨w.heap.size, 0, none⟩ = some (.int .i64 0) := hb2D.cell 0
    have c1 : w1.drew.cell? ⟨w.heap.size, 1, none⟩ = some (.bool false) := hb2D.cell 1
    have c2 : w1.drew.cell? ⟨w.heap.size, 2, none⟩ = some (.int .i64 0) := hb2D.cell 2
    have f0 := hb2D.free 0
    have f1 := hb2D.free 1
    have f2 := hb2D.free 2
    obtain ⟨wD, hwD⟩ : ∃ x, w1.drew = x := ⟨_, rfl⟩
    rw [hwD] at hSa hb2D c0 c1 c2 f0 f1 f2 ⊢
    refine on1 16 fun K hK => ?_
    go_simp
    have hbr := ((hb2D.set 0 (.int .i64 s1)).set 1 (.bool s2)).set 2 (.int .i64 s3)
    have hfr : Fr wD (((wD.setCell ⟨w.heap.size, 0, none⟩ (.int .i64 s1)).setCell ⟨w.heap.size, 1, none⟩ (.bool s2)).setCell ⟨w.heap.size, 2, none⟩ (.int .i64 s3)) (fun k => k = w.heap.size) := ((Fr.store _ _ _ _).trans (Fr.store _ _ _ _) fun _ _ h => h).trans (Fr.store _ _ _ _) fun _ _ h => h
    obtain ⟨wE, hwE⟩ : ∃ x, ((wD.setCell ⟨w.heap.size, 0, none⟩ (.int .i64 s1)).setCell ⟨w.heap.size, 1, none⟩ (.bool s2)).setCell ⟨w.heap.size, 2, none⟩ (.int .i64 s3) = x := ⟨_, rfl⟩
    rw [hwE] at hbr hfr ⊢
    have hSc : KeptR (fun k => k = w.heap.size) w1 wE := Fr.trans hSa hfr fun _ _ h => h
    refine hK.out _ _ hSc ?_
    clear hK K c0 c1 c2 f0 f1 f2
    try simp only [Act.put, sA, sB, sC]
    refine tk 17 hSc ?_
    try simp only [Act.put, sA, sB, sC]
    refine wpAnyS_last (i := 18) rfl (by kernel_rfl) (by decide) (by kernel_rfl) (by rfl) fun K hK => ?_
    go_simp
    refine hK.out _ _ ?_
    clear hK K
    have HBR := Lib.hid hbr
    have HFE := Lib.hid (show Fr w1 wE (fun k => k = w.heap.size) from hSc)
    clear hSa hSc hbr hfr hb2D k1 k2 k3 k4 k5 hwE hwD
    go_wp2_with fail
    have t0 : wE.cell? ⟨w.heap.size, 0, none⟩ = some (.int .i64 s1) := HBR.out.cell 0
    have t1 : wE.cell? ⟨w.heap.size, 1, none⟩ = some (.bool s2) := HBR.out.cell 1
    have t2 : wE.cell? ⟨w.heap.size, 2, none⟩ = some (.int .i64 s3) := HBR.out.cell 2
    refine bodyPost_ret (by simp [results, Tryz.results39, go_sem, t0, t1, t2]; try rfl) rfl ?_
    exact ⟨rfl, HF0.out.trans HFE.out fun k hk e => by omega⟩
end Go.Proofs.YtokeciekncincabGreat
